/- The walks of the document's Sides and Depth, and of chapter 11's Sides and Depth at any leaf. -/
import Derived.Test.YtgdlhcopgfgmaaaShapeSides
namespace Go.Proofs.Ytgdlhcopgfgmaaa.Shape
open Go.RowKit Go.Proofs.Ytgdlhcopgfgmaaa.Mk
theorem sidesI_out (n i : Int) (h : ¬ (0 ≤ i ∧ i < n)) : sidesI n i = [] := by unfold sidesI; rw [if_neg h]
theorem sidesI_in (n i : Int) (h0 : 0 ≤ i) (h : i < n) : sidesI n i = (downL n.toNat i.toNat).reverse := by unfold sidesI; rw [if_pos ⟨h0, h⟩]
theorem sidesI_one (n i : Int) (hn : n ≤ 1) : sidesI n i = [] := by
  by_cases h : 0 ≤ i ∧ i < n
  · rw [sidesI_in n i h.1 h.2, downL_one _ _ (by omega)]; rfl
  · exact sidesI_out n i h
theorem left_le (n : Int) (h : 2 ≤ n) : 1 ≤ leftI n ∧ leftI n < n ∧ (leftI n).toNat = leftN n.toNat := by
  have := left_spec n.toNat (by omega)
  unfold leftI
  omega
theorem sidesI_left (n i : Int) (h : 2 ≤ n) (h0 : 0 ≤ i) (hi : i < leftI n) : sidesI n i = sidesI (leftI n) i ++ [false] := by
  have hl := left_le n h
  rw [sidesI_in n i h0 (by omega), sidesI_in _ i h0 hi, downL_left n.toNat i.toNat (by omega) (by omega), List.reverse_cons, hl.2.2]
theorem sidesI_right (n i : Int) (h : 2 ≤ n) (hi : leftI n ≤ i) (hin : i < n) : sidesI n i = sidesI (n - leftI n) (i - leftI n) ++ [true] := by
  have hl := left_le n h
  rw [sidesI_in n i (by omega) (by omega), sidesI_in _ _ (by omega) (by omega), downL_right n.toNat i.toNat (by omega) (by omega), List.reverse_cons]
  congr 4 <;> omega
theorem sidesI_len (n i : Int) (h : n ≤ 9223372036854775807) : (sidesI n i).length ≤ 63 := by
  by_cases h2 : 0 ≤ i ∧ i < n
  · rw [sidesI_in n i h2.1 h2.2, List.length_reverse]
    exact down_len64 _ _ (by omega)
  · rw [sidesI_out n i h2]; simp
set_option maxHeartbeats 2000000 in
theorem sides_calls (n i : Int) (w : World) (hn : n ≤ 9223372036854775807) :
    Calls Try.prog 88 #[.int .i64 n, .int .i64 i] w fun e w' => ∃ v, e = .returned v ∧ SL encB 1 w' v (sidesI n i) ∧ Below w.heap.size w w' := by
  by_cases h : 0 ≤ i ∧ i < n
  · rw [sidesI_in n i h.1 h.2]
    exact sides_some n i hn h.1 h.2 _ (Lib.hid rfl) (down_len64 _ _ (by omega)) w
  · rw [sidesI_out n i h]
    go_enter Try.func88, Try.ntmps88
    by_cases h0 : i < 0
    · go_wp2_with fail
      go_ret
      exact ⟨_, rfl, SL.nil _ _ _, (((Below.refl _ w).alloc (Nat.le_refl _) _).alloc (by simp) _).alloc (by simp; omega) _⟩
    · go_wp2_with fail
      go_ret
      exact ⟨_, rfl, SL.nil _ _ _, (((Below.refl _ w).alloc (Nat.le_refl _) _).alloc (by simp) _).alloc (by simp; omega) _⟩
set_option maxRecDepth 100000 in
set_option maxHeartbeats 4000000 in
theorem rsides_own : ∀ (k : Nat) (n i : Int), n.toNat ≤ k → n ≤ 9223372036854775807 → -9223372036854775808 ≤ n → i ≤ 9223372036854775807 → -9223372036854775808 ≤ i → ∀ w : World,
    Calls Try.prog 87 #[.int .i64 n, .int .i64 i] w fun e w' => ∃ v, e = .returned v ∧ w'.ownsRow w.heap.size 4 1 v (sidesI n i).length ((sidesI n i).flatMap encB) ∧ Below w.heap.size w w' := by
  obtain ⟨i0, hin, hz0, hz1, hz2⟩ := info_parts infoB
  intro k
  induction k with
  | zero =>
    intro n i hk hn hn0 hi hi0 w
    rw [sidesI_one n i (by omega)]
    by_cases h0 : i < 0
    · go_enter Try.func87, Try.ntmps87
      go_wp2_with fail
      go_ret
      exact ⟨_, rfl, World.ownsRow_nil _ _ _ _, Below.refl _ _⟩
    · have h1 : n ≤ i := by omega
      go_enter Try.func87, Try.ntmps87
      go_wp2_with fail
      go_ret
      exact ⟨_, rfl, World.ownsRow_nil _ _ _ _, Below.refl _ _⟩
  | succ k ih =>
    intro n i hk hn hn0 hi hi0 w
    by_cases h0 : i < 0
    · rw [sidesI_out n i (by omega)]
      go_enter Try.func87, Try.ntmps87
      go_wp2_with fail
      go_ret
      exact ⟨_, rfl, World.ownsRow_nil _ _ _ _, Below.refl _ _⟩
    by_cases h1 : n ≤ i
    · rw [sidesI_out n i (by omega)]
      go_enter Try.func87, Try.ntmps87
      go_wp2_with fail
      go_ret
      exact ⟨_, rfl, World.ownsRow_nil _ _ _ _, Below.refl _ _⟩
    by_cases h2 : n = 1
    · rw [sidesI_one n i (by omega)]
      subst h2
      go_enter Try.func87, Try.ntmps87
      go_wp2_with fail
      go_ret
      exact ⟨_, rfl, World.ownsRow_nil _ _ _ _, Below.refl _ _⟩
    · have hl := left_le n (by omega)
      have HLf := Lib.hid (fun w => rleft_same n w hn hn0)
      have hnz : ((n : Int) == 1) = false := by simpa using h2
      obtain ⟨hl1, hl2, hq⟩ := hl
      by_cases hr : i < leftI n
      · have HI := Lib.hid (ih (leftI n) i (by omega) (by omega) (by omega) (by omega) (by omega))
        have hs := sidesI_len n i hn
        rw [sidesI_left n i (by omega) (by omega) hr] at hs ⊢
        clear hq ih
        rw [List.length_append] at hs ⊢
        rw [List.flatMap_append]
        generalize leftI n = p at *
        generalize hL : sidesI p i = L at *
        clear hL
        go_enter Try.func87, Try.ntmps87
        go_wp2_with fail
        refine (HLf.out _).mono ?_
        rintro e w1 ⟨rfl, rfl⟩
        go_wp2_with fail
        refine (HI.out _).mono ?_
        rintro e w2 ⟨v, rfl, ho, hb⟩
        have Ho := Lib.hid ho
        clear ho
        have hbs := hb.size
        go_wp2_with (at_builtin; refine wpList_append_own _ rfl _ _ 127 rfl w1.heap.size 4 i0 _ 1 1 US hin hz0 hz1 hz2 rfl (by decide) _ _ _ rfl (Ho.out.alloc _) ⟨w2.heap.size, 0, none⟩ 1 1 [.bool false] rfl ?c1 ?c2 ?c3 ?c4 ?c5 ?c6 ?_)
        case c1 => rfl
        case c2 => exact cell_one_new _ _ _
        case c3 => simp [Value.oneCell']
        case c4 => unfold maxLen; simp at hs; omega
        case c5 => simp at hs; omega
        case c6 => rw [World.size_alloc]; omega
        intro v' w3 ho' hg _
        go_wp2_with fail
        go_ret
        exact ⟨v', rfl, by simpa [encB] using ho', (hb.alloc (by omega) _).grown hg (by rw [World.size_alloc]; omega) (fun k hk => (Ho.out.lt k hk).1)⟩
      · have HI := Lib.hid (ih (n - leftI n) (i - leftI n) (by omega) (by omega) (by omega) (by omega) (by omega))
        have hs := sidesI_len n i hn
        rw [sidesI_right n i (by omega) (by omega) (by omega)] at hs ⊢
        clear hq ih
        rw [List.length_append] at hs ⊢
        rw [List.flatMap_append]
        generalize leftI n = p at *
        generalize hL : sidesI (n - p) (i - p) = L at *
        clear hL
        go_enter Try.func87, Try.ntmps87
        go_wp2_with fail
        refine (HLf.out _).mono ?_
        rintro e w1 ⟨rfl, rfl⟩
        go_wp2_with fail
        refine (HI.out _).mono ?_
        rintro e w2 ⟨v, rfl, ho, hb⟩
        have Ho := Lib.hid ho
        clear ho
        have hbs := hb.size
        go_wp2_with (at_builtin; refine wpList_append_own _ rfl _ _ 127 rfl w1.heap.size 4 i0 _ 1 1 US hin hz0 hz1 hz2 rfl (by decide) _ _ _ rfl (Ho.out.alloc _) ⟨w2.heap.size, 0, none⟩ 1 1 [.bool true] rfl ?c1 ?c2 ?c3 ?c4 ?c5 ?c6 ?_)
        case c1 => rfl
        case c2 => exact cell_one_new _ _ _
        case c3 => simp [Value.oneCell']
        case c4 => unfold maxLen; simp at hs; omega
        case c5 => simp at hs; omega
        case c6 => rw [World.size_alloc]; omega
        intro v' w3 ho' hg _
        go_wp2_with fail
        go_ret
        exact ⟨v', rfl, by simpa [encB] using ho', (hb.alloc (by omega) _).grown hg (by rw [World.size_alloc]; omega) (fun k hk => (Ho.out.lt k hk).1)⟩
theorem rsides_calls (n i : Int) (w : World) (hn : n ≤ 9223372036854775807) (hn0 : -9223372036854775808 ≤ n) (hi : i ≤ 9223372036854775807) (hi0 : -9223372036854775808 ≤ i) :
    Calls Try.prog 87 #[.int .i64 n, .int .i64 i] w fun e w' => ∃ v, e = .returned v ∧ SL encB 1 w' v (sidesI n i) ∧ Below w.heap.size w w' := by
  refine (rsides_own n.toNat n i (Nat.le_refl _) hn hn0 hi hi0 w).mono ?_
  rintro e w1 ⟨v, rfl, ho, hb⟩
  exact ⟨v, rfl, SL.of_owns ho (encB_len _) (by have := sidesI_len n i hn; omega), hb⟩
def depthI (n i : Int) : Int := if 0 ≤ i ∧ i < n then ((sidesI n i).length : Int) else -1
set_option maxHeartbeats 2000000 in
theorem depth_calls (n i : Int) (w : World) (hn : n ≤ 9223372036854775807) (_hn0 : -9223372036854775808 ≤ n) (hi : i ≤ 9223372036854775807) (hi0 : -9223372036854775808 ≤ i) :
    Calls Try.prog 79 #[.int .i64 n, .int .i64 i] w fun e w' => e = .returned (.int .i64 (depthI n i)) ∧ Below w.heap.size w w' := by
  have hd : Hid (depthI n i = if 0 ≤ i ∧ i < n then ((sidesI n i).length : Int) else -1) := Lib.hid rfl
  generalize depthI n i = d at *
  by_cases h0 : i < 0
  · have hd2 : Hid (-1 = d) := Lib.hid (by rw [hd.out, if_neg (by omega)])
    go_enter Try.func79, Try.ntmps79
    go_wp2_with fail
    go_ret
    exact ⟨ret_int hd2.out, Below.refl _ _⟩
  by_cases h1 : n ≤ i
  · have hd2 : Hid (-1 = d) := Lib.hid (by rw [hd.out, if_neg (by omega)])
    go_enter Try.func79, Try.ntmps79
    go_wp2_with fail
    go_ret
    exact ⟨ret_int hd2.out, Below.refl _ _⟩
  · have hd2 : Hid (((sidesI n i).length : Int) = d) := Lib.hid (by rw [hd.out, if_pos (by omega)])
    have HS := Lib.hid (fun w => sides_calls n i w hn)
    clear hd
    generalize sidesI n i = L at *
    go_enter Try.func79, Try.ntmps79
    go_wp2_with fail
    refine (HS.out _).mono ?_
    rintro e w1 ⟨v, rfl, hs, hb⟩
    obtain ⟨_, _, A, c, rfl, _⟩ := hs
    go_wp2_with fail
    go_ret
    exact ⟨ret_int hd2.out, hb⟩
set_option maxHeartbeats 2000000 in
theorem rdepth_calls (n i : Int) (w : World) (hn : n ≤ 9223372036854775807) (hn0 : -9223372036854775808 ≤ n) (hi : i ≤ 9223372036854775807) (hi0 : -9223372036854775808 ≤ i) :
    Calls Try.prog 77 #[.int .i64 n, .int .i64 i] w fun e w' => e = .returned (.int .i64 (depthI n i)) ∧ Below w.heap.size w w' := by
  have hd : Hid (depthI n i = if 0 ≤ i ∧ i < n then ((sidesI n i).length : Int) else -1) := Lib.hid rfl
  generalize depthI n i = d at *
  by_cases h0 : i < 0
  · have hd2 : Hid (-1 = d) := Lib.hid (by rw [hd.out, if_neg (by omega)])
    go_enter Try.func77, Try.ntmps77
    go_wp2_with fail
    go_ret
    exact ⟨ret_int hd2.out, Below.refl _ _⟩
  by_cases h1 : n ≤ i
  · have hd2 : Hid (-1 = d) := Lib.hid (by rw [hd.out, if_neg (by omega)])
    go_enter Try.func77, Try.ntmps77
    go_wp2_with fail
    go_ret
    exact ⟨ret_int hd2.out, Below.refl _ _⟩
  · have hd2 : Hid (((sidesI n i).length : Int) = d) := Lib.hid (by rw [hd.out, if_pos (by omega)])
    have HS := Lib.hid (fun w => rsides_calls n i w hn hn0 hi hi0)
    clear hd
    generalize sidesI n i = L at *
    go_enter Try.func77, Try.ntmps77
    go_wp2_with fail
    refine (HS.out _).mono ?_
    rintro e w1 ⟨v, rfl, hs, hb⟩
    obtain ⟨_, _, A, c, rfl, _⟩ := hs
    go_wp2_with fail
    go_ret
    exact ⟨ret_int hd2.out, hb⟩
end Go.Proofs.Ytgdlhcopgfgmaaa.Shape
