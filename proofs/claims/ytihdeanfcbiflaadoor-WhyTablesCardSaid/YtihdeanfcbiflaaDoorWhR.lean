/- The walks of the document's Digits and of the law's words. -/
import Derived.Test.YtihdeanfcbiflaaDoorWhT
import Derived.Test.YtihdeanfcbiflaaDoorBk
namespace Go.Proofs.YtihdeanfcbiflaaDoor.Wh
open Go.RowKit Go.Proofs.YtihdeanfcbiflaaDoor.Mk Go.Proofs.YtihdeanfcbiflaaDoor.Ul Go.Proofs.YtihdeanfcbiflaaDoor.Wi Go.Proofs.YtihdeanfcbiflaaDoor.Lg Go.Proofs.YtihdeanfcbiflaaDoor.R5 Go.Proofs.YtihdeanfcbiflaaDoor.R5
theorem dn_small {X : Nat} (h : X < (2 ^ 64) ^ 5) : dn X ≤ 1000 := by
  exact Nat.le_trans ((dn_le 20 X).2 (Nat.lt_of_lt_of_le h (by decide))) (by decide)
set_option maxHeartbeats 4000000 in
set_option maxRecDepth 100000 in
theorem digits_calls (n : Int) (w : World) (h1 : n ≤ 9223372036854775807) (h2 : -9223372036854775808 ≤ n) :
    Calls Tryd.prog 7 #[.int .i64 n] w fun e w' => e = .returned (.string (ba (itoaL n))) ∧ Below w.heap.size w w' := by
  have HL := itoa_len h1 h2
  by_cases h0 : n < 0
  · obtain ⟨X, hX⟩ : ∃ X : Nat, n = -(X : Int) - 1 := ⟨(-(n + 1)).toNat, by omega⟩
    have hXb : X ≤ 9223372036854775807 := by omega
    have hab : n.natAbs = X + 1 := by omega
    have t1 : decide (n < 0) = true := decide_eq_true h0
    have HT : ba (itoaL n) = ⟨#[45]⟩ ++ ba (decL (X + 1)) := by
      unfold itoaL
      rw [if_pos h0, hab, show (45 :: decL (X + 1) : List UInt8) = [45] ++ decL (X + 1) from rfl, ← ba_append]
      rfl
    have hlen := HL
    unfold itoaL at hlen
    rw [if_pos h0, hab, List.length_cons] at hlen
    have HT := Lib.hid HT
    have z1 : (ba (decL (X + 1))).size ≤ 20 := by rw [ba_size]; omega
    have hadd : ¬ 9223372036854775807 < 1 + (ba (decL (X + 1))).size := by omega
    clear HL hlen hab
    have q1 : IntKind.i64.wrap (n + 1) = -(X : Int) := by rw [IntWalk.i64_in _ (by omega)]; omega
    have q2 : IntKind.i64.wrap (- -(X : Int)) = (X : Int) := by rw [IntWalk.i64_in _ (by omega)]; omega
    have q3 : IntKind.u64.wrap (X : Int) = (X : Int) := by rw [IntKind.wrap_u64]; omega
    have q4 : IntKind.u64.wrap ((X : Int) + 1) = ((X + 1 : Nat) : Int) := by rw [IntKind.wrap_u64]; omega
    have OF := Lib.hid (r5of_calls (X + 1) w (by omega))
    rw [show ((X + 1 : Nat) : Int) = (X : Int) + 1 by omega] at OF
    have hdn := Lib.hid (dn_small (X := X + 1) (Nat.lt_of_le_of_lt (show X + 1 ≤ 9223372036854775808 by omega) (by decide)))
    clear hX
    go_enter Tryd.func7, Tryd.ntmps7
    go_wp2_with fail
    refine OF.out.mono ?_
    rintro e w1 ⟨v1, rfl, hd1, hb1⟩
    have TX := Lib.hid (r5text_calls (X + 1) v1 w1 hdn.out hd1)
    have B1 := Lib.hid hb1
    clear hd1 hb1
    generalize ba (decL (X + 1)) = s1 at *
    go_wp2_with fail
    refine TX.out.mono ?_
    rintro e w2 ⟨rfl, hb2⟩
    have B2 := Lib.hid (below_up B1.out hb2)
    clear hb2
    go_wp2_with fail
    go_ret
    exact ⟨by rw [HT.out]; rfl, B2.out⟩
  · obtain ⟨X, rfl⟩ := Int.eq_ofNat_of_zero_le (show 0 ≤ n by omega)
    have t1 : decide ((X : Int) < 0) = false := decide_eq_false h0
    have q3 : IntKind.u64.wrap (X : Int) = (X : Int) := by rw [IntKind.wrap_u64]; omega
    have HT := Lib.hid (show ba (itoaL (X : Int)) = ba (decL X) by unfold itoaL; rw [if_neg h0, Int.toNat_natCast])
    have OF := Lib.hid (r5of_calls X w (by omega))
    have hXs : X < (2 ^ 64) ^ 5 := Nat.lt_of_le_of_lt (show X ≤ 9223372036854775807 by omega) (by decide)
    have hdn := Lib.hid (dn_small hXs)
    clear HL hXs h0
    go_enter Tryd.func7, Tryd.ntmps7
    go_wp2_with fail
    refine OF.out.mono ?_
    rintro e w1 ⟨v1, rfl, hd1, hb1⟩
    have TX := Lib.hid (r5text_calls X v1 w1 hdn.out hd1)
    have B1 := Lib.hid hb1
    clear hd1 hb1
    go_wp2_with fail
    refine TX.out.mono ?_
    rintro e w2 ⟨rfl, hb2⟩
    have B2 := Lib.hid (below_up B1.out hb2)
    clear hb2
    go_wp2_with fail
    go_ret
    exact ⟨by rw [HT.out]; rfl, B2.out⟩
/-- what a walk of the law's words carries -/
structure LW1 (g : Nat) (h : Hf) (w W : World) : Prop where
  bx : W.rangeAt g 0 (hfC h)
  lt : g < W.heap.size
  bel : Below w.heap.size w W
theorem LW1.keep {g : Nat} {h : Hf} {w W W' : World} (k : LW1 g h w W) (hb : Below W.heap.size W W') : LW1 g h w W' :=
  ⟨rg_below k.bx k.lt hb, Nat.lt_of_lt_of_le k.lt hb.size, below_up k.bel hb⟩
theorem LW1.lbs {g : Nat} {h : Hf} {w W : World} (k : LW1 g h w W) : LB W g 2 5 h.v := fun i hi => by
  have := hf2 k.bx i (.int .u64 (Ul.lb h.v i : Nat)) (by unfold FC; rw [List.getElem?_map, List.getElem?_range hi]; rfl)
  simpa using this
set_option maxHeartbeats 4000000 in
set_option maxRecDepth 100000 in
theorem rwords_calls (h : Hf) (k : h.Ok) (w : World) :
    Calls Tryd.prog 8 #[.agg (hfC h).toArray] w fun e w' => e = .returned (.string (ba (wordsL h))) ∧ Below w.heap.size w w' := by
  have P0 := Lib.hid (show LW1 w.heap.size h w (w.alloc (hB h)) from ⟨rg_hb (heap_new w (hB h)), by simp, (Below.refl _ _).alloc (Nat.le_refl _) _⟩)
  have z1 : (ba (itoaL h.c)).size ≤ 20 := by rw [ba_size]; exact itoa_len k.2.1 k.2.2
  have z2 : (ba (decL h.v)).size ≤ 97 := by rw [ba_size]; exact dec5_len k.1
  have c0 := hf0 P0.out.bx
  have c1 := hf1 P0.out.bx
  have WT := Lib.hid (@words_t h)
  have WF := Lib.hid (@words_f h)
  have KO := Lib.hid k
  have hdn := Lib.hid (dn_small k.1)
  clear k
  unfold hB at *
  go_enter Tryd.func8, Tryd.ntmps8
  go_upto_region 1 with fail
  obtain ⟨g, hg⟩ : ∃ g, g = w.heap.size := ⟨_, rfl⟩
  rw [← hg] at P0 c0 c1
  rw [← hg]
  clear hg
  generalize World.alloc w _ = W0 at *
  cases hm : h.m with
  | false =>
    rw [hm] at c1
    have WF := Lib.hid (WF.out hm)
    have DG := Lib.hid (digits_calls h.c W0 KO.out.2.1 KO.out.2.2)
    generalize ba (itoaL h.c) = s1 at *
    have hadd : ¬ 9223372036854775807 < s1.size + 2 := by omega
    clear WT
    go_wp2_with fail
    refine DG.out.mono ?_
    rintro e w1 ⟨rfl, hb1⟩
    have B1 := Lib.hid (P0.out.keep hb1).bel
    clear hb1
    go_wp2_with fail
    go_ret
    exact ⟨by rw [WF.out]; rfl, B1.out⟩
  | true =>
    rw [hm] at c1
    have WT := Lib.hid (WT.out hm)
    clear WF c0
    generalize hs1 : ba (itoaL h.c) = s1 at *
    generalize hs2 : ba (decL h.v) = s2 at *
    have Hs := Lib.hid (And.intro hs1 hs2)
    clear hs1 hs2
    have hadd : ¬ 9223372036854775807 < s1.size + 1 := by omega
    have hadd2 : s1.size + 1 + s2.size ≤ 9223372036854775807 := by omega
    go_wp2_with fail
    have P_X0 := P0.out.keep (Below.refl _ _).drew
    clear P0 c1 z1 z2
    refine wp_region_any (by kernel_rfl) ?_
    change wpAny _ _ _ _ _ _ _ (World.drew _)
    generalize World.drew W0 = X0 at *
    refine wpAny_take (i := 0) (oi := ⟨some 5, _, _, _, _, _⟩) (v := .pointer (some ⟨g, 0, none⟩)) rfl (by kernel_rfl) (by kernel_rfl) (by kernel_rfl) (fun _ _ _ h => h) (Or.inl ⟨by rfl, by intro wx; go_simp⟩) ?_
    try simp only [Act.put, List.setIfInBounds_toArray, List.set_cons_zero, List.set_cons_succ]
    refine wpAny_take (i := 4) (oi := ⟨some 9, _, _, _, _, _⟩) (v := .pointer (some ⟨g, 2, none⟩)) rfl (by kernel_rfl) (by kernel_rfl) (by kernel_rfl) (fun _ _ _ h => h) (Or.inl ⟨by rfl, by intro wx; go_simp⟩) ?_
    try simp only [Act.put, List.setIfInBounds_toArray, List.set_cons_zero, List.set_cons_succ]
    refine wpAny_take (i := 5) (oi := ⟨some 10, _, _, _, _, _⟩) (v := .slice (some ⟨g, 2, none⟩) 5 5) rfl (by kernel_rfl) (by kernel_rfl) (by kernel_rfl) (fun _ _ _ h => h) (Or.inl ⟨by rfl, by intro wx; go_simp⟩) ?_
    try simp only [Act.put, List.setIfInBounds_toArray, List.set_cons_zero, List.set_cons_succ]
    refine wpAny_ready (rs := [1]) (by kernel_rfl) (by simp) ?_
    refine AllReady.cons rfl (fun K hK => ?_) AllReady.nil
    · refine step_load rfl 3 _ rfl _ rfl (.int .i64 h.c) (ldi (hf0 P_X0.bx)) ?_
      refine hK (Act.put _ (some 6) _) _ ?_
      try simp only [Act.put, List.setIfInBounds_toArray, List.set_cons_zero, List.set_cons_succ]
      clear hK K
      refine wpAny_ready (rs := [2]) (by kernel_rfl) (by simp) ?_
      refine AllReady.cons rfl (fun K hK => ?_) AllReady.nil
      · rw [if_pos (by kernel_rfl)]
        refine wp_callT _ _ (by go_simp) (digits_calls h.c X0 KO.out.2.1 KO.out.2.2) ?_
        rintro e V2 ⟨rfl, hb2⟩
        rw [Hs.out.1]
        refine ⟨_, rfl, ?_⟩
        have P_V2 := P_X0.keep hb2
        try dsimp only
        refine hK (Act.put _ (some 7) _) _ ?_
        try simp only [Act.put, List.setIfInBounds_toArray, List.set_cons_zero, List.set_cons_succ]
        clear hK K
        refine wpAny_take (i := 3) (oi := ⟨some 8, _, _, _, _, _⟩) (v := .string (s1 ++ ⟨#[32]⟩)) rfl (by kernel_rfl) (by kernel_rfl) (by kernel_rfl) (fun _ _ _ h => h) (Or.inl ⟨by rfl, by intro wx; go_simp⟩) ?_
        try simp only [Act.put, List.setIfInBounds_toArray, List.set_cons_zero, List.set_cons_succ]
        refine wpAny_ready (rs := [6]) (by kernel_rfl) (by simp) ?_
        refine AllReady.cons rfl (fun K hK => ?_) AllReady.nil
        · rw [if_pos (by kernel_rfl)]
          refine wp_callT _ _ (by go_simp) (limbs_calls h.v g 2 5 5 V2 KO.out.1 (by decide) (by decide) P_V2.lbs) ?_
          rintro e V3 ⟨v1, rfl, hd1, hb3⟩
          refine ⟨_, rfl, ?_⟩
          have D_V3 := hd1
          have P_V3 := P_V2.keep hb3
          try dsimp only
          refine hK (Act.put _ (some 11) _) _ ?_
          try simp only [Act.put, List.setIfInBounds_toArray, List.set_cons_zero, List.set_cons_succ]
          clear hK K
          refine wpAny_ready (rs := [7]) (by kernel_rfl) (by simp) ?_
          refine AllReady.cons rfl (fun K hK => ?_) AllReady.nil
          · rw [if_pos (by kernel_rfl)]
            refine wp_callT _ _ (by go_simp) (r5text_calls h.v v1 V3 hdn.out D_V3) ?_
            rintro e V4 ⟨rfl, hb4⟩
            rw [Hs.out.2]
            refine ⟨_, rfl, ?_⟩
            have P_V4 := P_V3.keep hb4
            have D_V4 := D_V3.below hb4
            try dsimp only
            refine hK (Act.put _ (some 12) _) _ ?_
            try simp only [Act.put, List.setIfInBounds_toArray, List.set_cons_zero, List.set_cons_succ]
            clear hK K
            refine wpAny_take (i := 8) (oi := ⟨some 13, _, _, _, _, _⟩) (v := .string (s1 ++ ⟨#[32]⟩ ++ s2)) rfl (by kernel_rfl) (by kernel_rfl) (by kernel_rfl) (fun _ _ _ h => h) (Or.inl ⟨by rfl, by intro wx; go_simp⟩) ?_
            try simp only [Act.put, List.setIfInBounds_toArray, List.set_cons_zero, List.set_cons_succ]
            refine wpAny_take (i := 9) (oi := ⟨some 2, _, _, _, _, _⟩) (v := .string (s1 ++ ⟨#[32]⟩ ++ s2)) rfl (by kernel_rfl) (by kernel_rfl) (by kernel_rfl) (fun _ _ _ h => h) (Or.inl ⟨by rfl, by intro wx; go_simp⟩) ?_
            try simp only [Act.put, List.setIfInBounds_toArray, List.set_cons_zero, List.set_cons_succ]
            refine wpAny_done (by kernel_rfl) ?_ _
            have PZ := Lib.hid P_V4.bel
            clear P_V4
            go_wp2_with fail
            go_ret
            exact ⟨by rw [WT.out]; rfl, PZ.out⟩
end Go.Proofs.YtihdeanfcbiflaaDoor.Wh
