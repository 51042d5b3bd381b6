/- The walk of the document's Take. -/
import Derived.Test.YtgdlhcopgfgmaaaMk
import Derived.Test.YtgdlhcopgfgmaaaNumMath
import Derived.Test.YtgdlhcopgfgmaaaProg
namespace Go.Proofs.Ytgdlhcopgfgmaaa.Num
open Go.RowKit Go.Proofs.Ytgdlhcopgfgmaaa.Mk
/-- what Take hands back -/
def takeV (r : Nat × Nat × Nat) : Value := .tuple #[.int .u64 r.1, .int .i64 r.2.1, .int .i64 r.2.2]
theorem ret3 {r : Nat × Nat × Nat} {x n e : Int} (hx : x = r.1) (hn : n = r.2.1) (he : e = r.2.2) : Ending.returned (.tuple #[.int .u64 x, .int .i64 n, .int .i64 e]) = .returned (takeV r) := by
  rw [hx, hn, he]; rfl
set_option maxRecDepth 100000 in
set_option maxHeartbeats 4000000 in
theorem rtake_calls (s : ByteArray) (w : World) (hs : s.size ≤ 9223372036854775807) :
    Calls Try.prog 83 #[.string s] w fun e w' => e = .returned (takeV (takeR (bs s))) ∧ Below w.heap.size w w' := by
  go_enter Try.func83, Try.ntmps83
  go_wp2_with fail
  go_loop [5] (fun s5 => ∃ n : Nat, n ≤ 10 ∧ n ≤ s.size ∧ s5 = .int .i64 n ∧ Hid (takeR (bs s) = takeG (bs s) (10 - n) n)) (fun i => 10 - (intOf i).toNat)
  case atStart => exact ⟨0, Nat.zero_le _, Nat.zero_le _, rfl, Lib.hid rfl⟩
  case round =>
    obtain ⟨n, hn, hns, rfl, hG⟩ := hrel
    by_cases hlt : n < s.size
    · obtain ⟨c, hcs⟩ : ∃ c, s[n]'hlt = c := ⟨_, rfl⟩
      have hlt2 : n < (bs s).length := by rw [bs_len]; exact hlt
      have hget : (bs s)[n]'hlt2 = c := (bs_get s n hlt hlt2).trans hcs
      have hc256 : c.toNat < 256 := c.toNat_lt
      by_cases h10 : n < 10
      · have hmore := takeG_more (bs s) n h10 hlt2
        have hlast := takeG_last (bs s) n h10 hlt2
        rw [hget] at hmore hlast
        have Hmore := Lib.hid hmore
        have Hlast := Lib.hid hlast
        clear hmore hlast hget hlt2
        by_cases h5 : 128 ≤ c.toNat
        · have h5b : (128 : Int) ≤ ((c.toNat : Nat) : Int) := by omega
          go_wp2_with fail
          go_round
          case rel => exact ⟨n + 1, by omega, by omega, by go_num, Lib.hid (hG.out.trans (Hmore.out h5))⟩
          case measure => simp [intOf] <;> omega
        · have h5b : ((c.toNat : Nat) : Int) < 128 := by omega
          have t1 : ((n : Int) == 10) = false := by simp; omega
          have t2 : ((n : Int) == (s.size : Int)) = false := by simp; omega
          have hl := Lib.hid (hG.out.trans (Hlast.out (by omega)))
          by_cases h6 : 0 < n ∧ c.toNat = 0
          · have hl2 : Hid (takeR (bs s) = (0, 0, 2)) := Lib.hid (by rw [hl.out, if_pos h6])
            have t3 : ((c.toNat : Int) == 0) = true := by simp; omega
            have h60 := h6.1
            clear h6
            go_wp2_with fail
            go_ret3
            exact ⟨ret3 (by rw [hl2.out]; rfl) (by rw [hl2.out]; rfl) (by rw [hl2.out]; rfl), Below.refl _ _⟩
          · by_cases h7 : n = 9 ∧ 1 < c.toNat
            · have hl2 : Hid (takeR (bs s) = (0, 0, 3)) := Lib.hid (by rw [hl.out, if_neg h6, if_pos h7])
              have t3 : ((c.toNat : Int) == 0) = false := by simp; omega
              have t4 : ((n : Int) == 9) = true := by simp; omega
              have h70 := h7.2
              have h71 : 8 < n := by omega
              clear h6 h7
              go_wp2_with fail
              go_ret3
              exact ⟨ret3 (by rw [hl2.out]; rfl) (by rw [hl2.out]; rfl) (by rw [hl2.out]; rfl), Below.refl _ _⟩
            · have hl2 : Hid (takeR (bs s) = (val ((bs s).take (n + 1)), n + 1, 0)) := Lib.hid (by rw [hl.out, if_neg h6, if_neg h7])
              have hvb := (takeR_lt (bs s)).1
              rw [hl2.out] at hvb
              simp only at hvb
              have Hvb := Lib.hid hvb
              clear hvb
              by_cases h9 : n = 9
              · have t3 : ((c.toNat : Int) == 0) = false := by simp; omega
                have t4 : ((n : Int) == 9) = true := by simp; omega
                have h70 : ((c.toNat : Nat) : Int) ≤ 1 := by omega
                have h71 : 8 < n := by omega
                clear h6 h7 h9
                have hcl : ((bs s).take (n + 1)).length = n + 1 := by rw [List.length_take, bs_len]; omega
                have Hst : Hid (∀ m (h : m < s.size), m ≤ n → val (((bs s).take (n + 1)).drop m) = (s[m]'h).toNat % 128 + 128 * val (((bs s).take (n + 1)).drop (m + 1))) := Lib.hid (fun m h hm => by
                  have h1 := val_drop ((bs s).take (n + 1)) m (by omega)
                  rw [h1, List.getElem_take, bs_get s m h])
                have Hb : Hid (∀ m, val (((bs s).take (n + 1)).drop m) < 18446744073709551616) := Lib.hid (fun m => Nat.lt_of_le_of_lt (val_drop_le _ m) Hvb.out)
                have He : Hid (val (((bs s).take (n + 1)).drop (n + 1)) = 0) := Lib.hid (by rw [List.drop_eq_nil_of_le (by omega)]; rfl)
                clear hcl
                go_wp2_with fail
                go_loop [6, 7] (fun s6 s7 => ∃ (m : Nat) (i : Int) (x : Nat), m ≤ n + 1 ∧ i = (m : Int) - 1 ∧ s7 = .int .i64 i ∧ s6 = .int .u64 x ∧ Hid (x = val (((bs s).take (n + 1)).drop m))) (fun _ i => (intOf i + 1).toNat)
                case atStart => exact ⟨n + 1, _, 0, Nat.le_refl _, rfl, by congr 1; omega, rfl, Lib.hid He.out.symm⟩
                case round =>
                  obtain ⟨m, i, x, hm, him, rfl, rfl, hx⟩ := hrel
                  cases m with
                  | zero =>
                    obtain rfl : i = -1 := by omega
                    clear him
                    have hx2 : Hid (x = (takeR (bs s)).1) := Lib.hid (by rw [hx.out, hl2.out]; rfl)
                    clear hx
                    go_wp2_with fail
                    go_ret3
                    exact ⟨ret3 (by rw [hx2.out]) (by rw [hl2.out]; go_num) (by rw [hl2.out]; rfl), Below.refl _ _⟩
                  | succ m =>
                    obtain rfl : i = (m : Int) := by omega
                    clear him
                    have hmlt : m < s.size := by omega
                    obtain ⟨d, hds⟩ : ∃ d, s[m]'hmlt = d := ⟨_, rfl⟩
                    have hst := Hst.out m hmlt (by omega)
                    rw [hds, ← hx.out] at hst
                    have hbb := Hb.out m
                    rw [hst] at hbb
                    have hd256 : d.toNat < 256 := d.toNat_lt
                    have hx1 : x * 128 ≤ 18446744073709551615 := by omega
                    have hx2 : x * 128 + d.toNat % 128 ≤ 18446744073709551615 := by omega
                    have HST := Lib.hid hst
                    clear hst hbb
                    go_wp2_with fail
                    go_round
                    case rel => exact ⟨m, _, x * 128 + d.toNat % 128, by omega, rfl, rfl, by go_num, Lib.hid (by rw [HST.out]; omega)⟩
                    case measure => simp [intOf] <;> omega
              · have t4 : ((n : Int) == 9) = false := by simp; omega
                by_cases hz : 0 < n
                · have t3 : ((c.toNat : Int) == 0) = false := by simp; omega
                  clear h6 h7 h9
                  have hcl : ((bs s).take (n + 1)).length = n + 1 := by rw [List.length_take, bs_len]; omega
                  have Hst : Hid (∀ m (h : m < s.size), m ≤ n → val (((bs s).take (n + 1)).drop m) = (s[m]'h).toNat % 128 + 128 * val (((bs s).take (n + 1)).drop (m + 1))) := Lib.hid (fun m h hm => by
                    have h1 := val_drop ((bs s).take (n + 1)) m (by omega)
                    rw [h1, List.getElem_take, bs_get s m h])
                  have Hb : Hid (∀ m, val (((bs s).take (n + 1)).drop m) < 18446744073709551616) := Lib.hid (fun m => Nat.lt_of_le_of_lt (val_drop_le _ m) Hvb.out)
                  have He : Hid (val (((bs s).take (n + 1)).drop (n + 1)) = 0) := Lib.hid (by rw [List.drop_eq_nil_of_le (by omega)]; rfl)
                  clear hcl
                  go_wp2_with fail
                  go_loop [6, 7] (fun s6 s7 => ∃ (m : Nat) (i : Int) (x : Nat), m ≤ n + 1 ∧ i = (m : Int) - 1 ∧ s7 = .int .i64 i ∧ s6 = .int .u64 x ∧ Hid (x = val (((bs s).take (n + 1)).drop m))) (fun _ i => (intOf i + 1).toNat)
                  case atStart => exact ⟨n + 1, _, 0, Nat.le_refl _, rfl, by congr 1; omega, rfl, Lib.hid He.out.symm⟩
                  case round =>
                    obtain ⟨m, i, x, hm, him, rfl, rfl, hx⟩ := hrel
                    cases m with
                    | zero =>
                      obtain rfl : i = -1 := by omega
                      clear him
                      have hx2 : Hid (x = (takeR (bs s)).1) := Lib.hid (by rw [hx.out, hl2.out]; rfl)
                      clear hx
                      go_wp2_with fail
                      go_ret3
                      exact ⟨ret3 (by rw [hx2.out]) (by rw [hl2.out]; go_num) (by rw [hl2.out]; rfl), Below.refl _ _⟩
                    | succ m =>
                      obtain rfl : i = (m : Int) := by omega
                      clear him
                      have hmlt : m < s.size := by omega
                      obtain ⟨d, hds⟩ : ∃ d, s[m]'hmlt = d := ⟨_, rfl⟩
                      have hst := Hst.out m hmlt (by omega)
                      rw [hds, ← hx.out] at hst
                      have hbb := Hb.out m
                      rw [hst] at hbb
                      have hd256 : d.toNat < 256 := d.toNat_lt
                      have hx1 : x * 128 ≤ 18446744073709551615 := by omega
                      have hx2 : x * 128 + d.toNat % 128 ≤ 18446744073709551615 := by omega
                      have HST := Lib.hid hst
                      clear hst hbb
                      go_wp2_with fail
                      go_round
                      case rel => exact ⟨m, _, x * 128 + d.toNat % 128, by omega, rfl, rfl, by go_num, Lib.hid (by rw [HST.out]; omega)⟩
                      case measure => simp [intOf] <;> omega
                · clear h6 h7 h9
                  have hcl : ((bs s).take (n + 1)).length = n + 1 := by rw [List.length_take, bs_len]; omega
                  have Hst : Hid (∀ m (h : m < s.size), m ≤ n → val (((bs s).take (n + 1)).drop m) = (s[m]'h).toNat % 128 + 128 * val (((bs s).take (n + 1)).drop (m + 1))) := Lib.hid (fun m h hm => by
                    have h1 := val_drop ((bs s).take (n + 1)) m (by omega)
                    rw [h1, List.getElem_take, bs_get s m h])
                  have Hb : Hid (∀ m, val (((bs s).take (n + 1)).drop m) < 18446744073709551616) := Lib.hid (fun m => Nat.lt_of_le_of_lt (val_drop_le _ m) Hvb.out)
                  have He : Hid (val (((bs s).take (n + 1)).drop (n + 1)) = 0) := Lib.hid (by rw [List.drop_eq_nil_of_le (by omega)]; rfl)
                  clear hcl
                  go_wp2_with fail
                  go_loop [6, 7] (fun s6 s7 => ∃ (m : Nat) (i : Int) (x : Nat), m ≤ n + 1 ∧ i = (m : Int) - 1 ∧ s7 = .int .i64 i ∧ s6 = .int .u64 x ∧ Hid (x = val (((bs s).take (n + 1)).drop m))) (fun _ i => (intOf i + 1).toNat)
                  case atStart => exact ⟨n + 1, _, 0, Nat.le_refl _, rfl, by congr 1; omega, rfl, Lib.hid He.out.symm⟩
                  case round =>
                    obtain ⟨m, i, x, hm, him, rfl, rfl, hx⟩ := hrel
                    cases m with
                    | zero =>
                      obtain rfl : i = -1 := by omega
                      clear him
                      have hx2 : Hid (x = (takeR (bs s)).1) := Lib.hid (by rw [hx.out, hl2.out]; rfl)
                      clear hx
                      go_wp2_with fail
                      go_ret3
                      exact ⟨ret3 (by rw [hx2.out]) (by rw [hl2.out]; go_num) (by rw [hl2.out]; rfl), Below.refl _ _⟩
                    | succ m =>
                      obtain rfl : i = (m : Int) := by omega
                      clear him
                      have hmlt : m < s.size := by omega
                      obtain ⟨d, hds⟩ : ∃ d, s[m]'hmlt = d := ⟨_, rfl⟩
                      have hst := Hst.out m hmlt (by omega)
                      rw [hds, ← hx.out] at hst
                      have hbb := Hb.out m
                      rw [hst] at hbb
                      have hd256 : d.toNat < 256 := d.toNat_lt
                      have hx1 : x * 128 ≤ 18446744073709551615 := by omega
                      have hx2 : x * 128 + d.toNat % 128 ≤ 18446744073709551615 := by omega
                      have HST := Lib.hid hst
                      clear hst hbb
                      go_wp2_with fail
                      go_round
                      case rel => exact ⟨m, _, x * 128 + d.toNat % 128, by omega, rfl, rfl, by go_num, Lib.hid (by rw [HST.out]; omega)⟩
                      case measure => simp [intOf] <;> omega
      · have hres := Lib.hid (hG.out.trans (takeG_end (bs s) n (by omega)))
        have t1 : ((n : Int) == 10) = true := by simp; omega
        clear hlt2 hget
        go_wp2_with fail
        go_ret3
        exact ⟨ret3 (by rw [hres.out]; rfl) (by rw [hres.out]; rfl) (by rw [hres.out]; rfl), Below.refl _ _⟩
    · by_cases h10 : n = 10
      · have hres := Lib.hid (hG.out.trans (takeG_end (bs s) n h10))
        have t1 : ((n : Int) == 10) = true := by simp; omega
        clear h10
        go_wp2_with fail
        go_ret3
        exact ⟨ret3 (by rw [hres.out]; rfl) (by rw [hres.out]; rfl) (by rw [hres.out]; rfl), Below.refl _ _⟩
      · have hres := Lib.hid (hG.out.trans (takeG_short (bs s) n (by omega) (by rw [bs_len]; omega)))
        have t1 : ((n : Int) == 10) = false := by simp; omega
        have t2 : ((n : Int) == (s.size : Int)) = true := by simp; omega
        clear h10
        go_wp2_with fail
        go_ret3
        exact ⟨ret3 (by rw [hres.out]; rfl) (by rw [hres.out]; rfl) (by rw [hres.out]; rfl), Below.refl _ _⟩
end Go.Proofs.Ytgdlhcopgfgmaaa.Num
