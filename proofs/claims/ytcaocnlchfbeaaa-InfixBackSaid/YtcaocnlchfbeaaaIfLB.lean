/- The walk of chapter 31's law InfixBack. -/
import Derived.Test.YtcaocnlchfbeaaaIfAw
namespace Go.Proofs.Ytcaocnlchfbeaaa.If
open Go.RowKit Go.Proofs.Ytcaocnlchfbeaaa.Mk Go.Proofs.Ytcaocnlchfbeaaa.Op Go.Proofs.Ytcaocnlchfbeaaa.Hd Go.Proofs.Ytcaocnlchfbeaaa.St Go.Proofs.Ytcaocnlchfbeaaa.Cur Go.Proofs.Ytcaocnlchfbeaaa.Stp Go.Proofs.Ytcaocnlchfbeaaa.Tk Go.Proofs.Ytcaocnlchfbeaaa.Pf
theorem getP_oks (c0 : C) : ∀ a ∈ (getP c0).1, a.1.Ok := by
  have h0 : ∀ (k : Nat) (c : C) (p : List HO), (∀ a ∈ p, a.1.Ok) → ∀ a ∈ (stepsC k c p).1, a.1.Ok := by
    intro k
    induction k with
    | zero => intro c p h; exact h
    | succ k ih =>
      intro c p h
      by_cases hc : c.e = 0
      · rw [steps_go hc]
        refine ih _ _ (fun a ha => ?_)
        rcases List.mem_append.1 ha with ha | ha
        · exact h a ha
        · rw [List.mem_singleton.1 ha]
          exact stepC_ok c
      · rw [steps_stop (.inr hc)]
        exact h
  unfold getP
  split
  · intro a ha; cases ha
  · exact h0 _ _ [] (fun a ha => by cases ha)
theorem encF_le (x : Inf) (k : IOk x) : (encF x).1.length ≤ 4000000 := by
  have hel : (encP x.l).1.length ≤ 3000000 := encP_le x.l k.l
  have hol := openB_len x.o k.o
  have hul := openB_len x.u k.u
  unfold encF
  split
  · exact Nat.zero_le _
  rename_i h
  have hm := may_ok (Decidable.byContradiction h)
  split
  · exact Nat.zero_le _
  split
  · exact Nat.zero_le _
  split
  · exact Nat.zero_le _
  have h1 := Num.putL_len10 x.a.toNat (by omega)
  have h2 := Num.putL_len10 x.b.toNat (by omega)
  have h3 := Num.putL_len10 x.s.size (by omega)
  simp only [List.length_append, bs_len]
  omega
/-- what is left of the law behind the first half -/
theorem dec_all (b : List UInt8) : ((decF b).2 ≠ 0 ∧ (decF b).1 = inf0) ∨ ((decF b).2 = 0 ∧ IOk (decF b).1 ∧ encF (decF b).1 = (b, 0)) := by
  by_cases h : (decF b).2 = 0
  · obtain ⟨h1, h2, h3, h4, h5, h6, h7, h8, h9⟩ := enc_dec (b := b) (x := (decF b).1) (Prod.ext rfl h)
    have hl : ∀ a ∈ (decF b).1.l, a.1.Ok := by
      rw [dec_x, if_neg (by rw [← dec_e]; simpa using h)]
      exact getP_oks _
    exact .inr ⟨h, ⟨by omega, by omega, by omega, fun t ht => ⟨hl t ht, h1 t ht⟩, h2, h3⟩, h9⟩
  · refine .inl ⟨h, ?_⟩
    rw [dec_x, if_pos (by rw [← dec_e]; exact h)]
set_option maxHeartbeats 8000000 in
set_option maxRecDepth 100000 in
theorem lawBack_calls (v1 : Value) (x : Inf) (s : ByteArray) (w : World) (h1 : IV w v1 x) (k1 : IOk x) (hs : s.size ≤ 140737488351232) :
    Calls Try.prog 12 #[v1, .string s] w fun e w' => e = .returned (.bool true) ∧ Below w.heap.size w w' := by
  have HA := Lib.hid (fun wx => If.awake_calls wx)
  have DE : Hid ((encF x).2 = 0 → decF (bs (ba (encF x).1)) = (x, 0)) := Lib.hid (fun h => by rw [bs_ba]; exact dec_enc (Prod.ext rfl h) k1)
  have HD := Lib.hid (fun t wx ht => If.decode_calls t wx ht)
  have DA := Lib.hid (dec_all (bs s))
  have HD2 := Lib.hid (fun wx => If.decode_calls s wx (by omega))
  have HSS := Lib.hid (fun va vb wx (ha : IV wx va x) (hb : IV wx vb x) => If.same_calls va vb x x wx ha hb)
  have HSZ := Lib.hid (fun va wx (ha : IV wx va inf0) => If.same_calls va (.agg (ifc inf0 nl nl nl)) inf0 inf0 wx ha (nil_iv wx))
  simp only [sameF_self] at HSS HSZ
  obtain ⟨v, sv, su, rfl, hs1, hs2, hs3⟩ := h1
  obtain ⟨A, a, rfl, hbd, _⟩ := hs1.at_
  obtain ⟨_, hpb, B, b, hqs, hlc, hcm, _⟩ := id hs2
  obtain ⟨_, hpb2, C, c, hqu, hlc2, hcm2, _⟩ := id hs3
  subst hqs
  subst hqu
  have iv : IV w (.agg (ifc x (.slice A x.l.length a) (.slice B x.o.p.length b) (.slice C x.u.p.length c))) x := ⟨_, _, _, rfl, hs1, hs2, hs3⟩
  clear hs1 hs2 hs3 hpb hpb2 hlc hlc2 hcm hcm2
  have hB0 : Below w.heap.size w (w.alloc (iB x (.slice A x.l.length a) (.slice B x.o.p.length b) (.slice C x.u.p.length c))) := (Below.refl _ _).alloc (Nat.le_refl _) _
  have hg0 : (w.alloc (iB x (.slice A x.l.length a) (.slice B x.o.p.length b) (.slice C x.u.p.length c))).heap[w.heap.size]? = some (iB x (.slice A x.l.length a) (.slice B x.o.p.length b) (.slice C x.u.p.length c)) := heap_new _ _
  obtain ⟨g, hg⟩ : ∃ g, g = w.heap.size := ⟨_, rfl⟩
  rw [← hg] at hg0
  unfold iB at hB0 hg0
  go_enter Try.func12, Try.ntmps12
  go_upto_region 1 with fail
  rw [← hg]
  generalize hW : World.alloc w _ = W0 at *
  clear hW hg
  have HK := Lib.hid (show ∀ wx, Below W0.heap.size W0 wx → wx.heap[g]? = some (iB x (.slice A x.l.length a) (.slice B x.o.p.length b) (.slice C x.u.p.length c)) ∧ IV wx (.agg (ifc x (.slice A x.l.length a) (.slice B x.o.p.length b) (.slice C x.u.p.length c))) x ∧ Below w.heap.size w wx from fun wx hx =>
    ⟨(hx.block _ (Array.getElem?_eq_some_iff.1 hg0).1).trans hg0, (iv.below hB0).below hx, below_up hB0 hx⟩)
  clear iv hB0 hg0
  have R0 := Lib.hid (Below.refl W0.heap.size W0)
  obtain ⟨l1, i1, -⟩ := HK.out W0 R0.out
  have L1 := Lib.hid (ldI l1)
  have M1 := Lib.hid (much31_calls _ x W0 i1)
  clear l1 i1
  go_wp2_with (refine wpList_loadg (by rfl) 76 (.tmp 2) (by rfl) _ (by rfl) _ L1.out ?_)
  refine M1.out.mono ?_
  rintro e w1 ⟨⟨b1, rfl⟩, hb1⟩
  have B1 := Lib.hid hb1
  clear hb1 M1 L1 R0
  have hcase : (40 < x.l.length ∨ (¬ 40 < x.l.length ∧ 8000 < s.size)) ∨ (¬ 40 < x.l.length ∧ ¬ 8000 < s.size) := by omega
  cases b1 with
  | true =>
    have BW := Lib.hid (HK.out w1 B1.out).2.2
    clear HK B1 HD HD2 DE DA HSS HSZ hcase
    go_wp2_with fail
    refine (HA.out _).mono ?_
    rintro e wa ⟨rfl, hba⟩
    have BA := Lib.hid (below_up BW.out hba)
    clear hba HA
    go_wp2_with fail
    go_ret
    exact ⟨rfl, BA.out⟩
  | false =>
    have c1 : w1.cell? ⟨g, 1, none⟩ = some (.slice A x.l.length a) := (iB_cell (HK.out w1 B1.out).1 1).trans rfl
    rcases hcase with (h40 | ⟨h40, h60⟩) | ⟨h40, h60⟩
    · have t1 : decide ((40 : Int) < (x.l.length : Int)) = true := decide_eq_true (by omega)
      have BW := Lib.hid (HK.out w1 B1.out).2.2
      clear HK B1 HD HD2 DE DA HSS HSZ h40
      go_wp2_with fail
      refine (HA.out _).mono ?_
      rintro e wa ⟨rfl, hba⟩
      have BA := Lib.hid (below_up BW.out hba)
      clear hba HA
      go_wp2_with fail
      go_ret
      exact ⟨rfl, BA.out⟩
    · have t1 : decide ((40 : Int) < (x.l.length : Int)) = false := decide_eq_false (by omega)
      have t2 : decide ((8000 : Int) < (s.size : Int)) = true := decide_eq_true (by omega)
      have BW := Lib.hid (HK.out w1 B1.out).2.2
      clear HK B1 HD HD2 DE DA HSS HSZ h40 h60
      go_wp2_with fail
      refine (HA.out _).mono ?_
      rintro e wa ⟨rfl, hba⟩
      have BA := Lib.hid (below_up BW.out hba)
      clear hba HA
      go_wp2_with fail
      go_ret
      exact ⟨rfl, BA.out⟩
    have t1 : decide ((40 : Int) < (x.l.length : Int)) = false := decide_eq_false (by omega)
    have t2 : decide ((8000 : Int) < (s.size : Int)) = false := decide_eq_false (by omega)
    obtain ⟨l1, i1, -⟩ := HK.out w1 B1.out
    have L1 := Lib.hid (ldI l1)
    have E1 := Lib.hid (If.encode_calls _ x w1 i1 k1)
    have hle := Lib.hid (encF_le x k1)
    clear l1 i1 h40 k1
    go_wp2_with (refine wpList_loadg (by rfl) 76 (.tmp 2) (by rfl) _ (by rfl) _ L1.out ?_)
    refine E1.out.mono ?_
    rintro e w2 ⟨rfl, hb2⟩
    have B2 := Lib.hid (below_up B1.out hb2)
    have BW := Lib.hid (HK.out w2 B2.out).2.2
    clear hb2 E1 L1 B1 c1 t1 t2
    generalize encF x = z at *
    obtain ⟨p, e0⟩ := z
    dsimp only at *
    go_upto_if 33 with fail
    have hpl : (ba p).size ≤ 4000000 := by rw [ba_size]; exact hle.out
    have HEQ : Hid (∀ q, bs s = q → ba q = s) := Lib.hid (fun q h => by rw [← h, ba_bs])
    go_cut [] (fun wx => Hid (Below w.heap.size w wx))
    case first =>
      clear HD2 DA HA HSZ
      by_cases he0 : e0 = 0
      · subst he0
        have HD1 := Lib.hid (HD.out (ba p) w2 (by omega))
        rw [DE.out rfl] at HD1
        dsimp only at HD1
        clear DE HD
        generalize ba p = sp at *
        go_wp2_with fail
        refine HD1.out.mono ?_
        rintro e w3 ⟨v3, rfl, hs3, hb3⟩
        obtain ⟨A', B', C', n', m', k', a', b', c', rfl⟩ := hs3.sl
        have hb5 : Below w3.heap.size w3 (w3.alloc (iB x (.slice A' n' a') (.slice B' m' b') (.slice C' k' c'))) := (Below.refl _ _).alloc (Nat.le_refl _) _
        obtain ⟨k1, k2, k3⟩ := HK.out _ (below_up (below_up B2.out hb3) hb5)
        have L5 := Lib.hid (ldI k1)
        have L6 := Lib.hid (ldI (heap_new w3 (iB x (.slice A' n' a') (.slice B' m' b') (.slice C' k' c'))))
        have S5 := Lib.hid (HSS.out _ _ _ k2 (hs3.below hb5))
        have B5 := Lib.hid k3
        clear hs3 hb3 hb5 k1 k2 k3 HK HSS HD1 B2 BW
        unfold iB at L5 L6 S5 B5
        go_wp2_with (first | (refine wpList_store_last rfl 76 _ _ rfl _ (ifc x (.slice A' n' a') (.slice B' m' b') (.slice C' k' c')) rfl rfl (IInf _ _ _ _) rfl (one_if _ _ _ _ _ _ _ _ _ _) ?_) | (refine wpList_loadg (by rfl) 76 (.tmp 2) (by rfl) _ (by rfl) _ L5.out ?_) | (refine wpList_loadg (by rfl) 76 (.tmp 7) (by rfl) _ (by rfl) _ L6.out ?_))
        refine S5.out.mono ?_
        rintro e w4 ⟨rfl, hb4⟩
        have B4 := Lib.hid (below_up B5.out hb4)
        clear hb4 S5
        go_wp2_with fail
        go_meet
        exact B4
      · have t3 : (e0 == 0) = false := by simpa using he0
        clear DE HD he0 HK HSS B2
        go_wp2_with fail
        go_meet
        exact BW
    case rest =>
      rename World => wx
      rename Hid (Below _ _ _) => BX
      clear BW B2 DE HD HSS HK
      generalize hy : decF (bs s) = y at *
      clear hy
      obtain ⟨y, e2⟩ := y
      dsimp only at *
      go_wp2_with fail
      refine (HD2.out _).mono ?_
      rintro e w3 ⟨v3, rfl, hs3, hb3⟩
      obtain ⟨A', B', C', n', m', k', a', b', c', rfl⟩ := hs3.sl
      have hb5 : Below w3.heap.size w3 (w3.alloc (iB y (.slice A' n' a') (.slice B' m' b') (.slice C' k' c'))) := (Below.refl _ _).alloc (Nat.le_refl _) _
      have L6 := Lib.hid (ldI (heap_new w3 (iB y (.slice A' n' a') (.slice B' m' b') (.slice C' k' c'))))
      have iv := hs3.below hb5
      have B5 := Lib.hid (below_up (below_up BX.out hb3) hb5)
      rcases DA.out with ⟨hb1, hb2⟩ | ⟨hb1, hb2, hb4⟩
      · subst hb2
        have t3 : (e2 != 0) = true := by simpa using hb1
        have S5 := Lib.hid (HSZ.out _ _ iv)
        clear hs3 hb3 hb5 DA HD2 hb1 iv HSZ BX
        unfold iB at L6 S5 B5
        go_wp2_with (first | (refine wpList_value (by rfl) _ (bld_0 (by rfl)) ?_) | (refine wpList_store_last rfl 76 _ _ rfl _ (ifc inf0 (.slice A' n' a') (.slice B' m' b') (.slice C' k' c')) rfl rfl (IInf _ _ _ _) rfl (one_if _ _ _ _ _ _ _ _ _ _) ?_) | (refine wpList_loadg (by rfl) 76 (.tmp 9) (by rfl) _ (by rfl) _ L6.out ?_))
        refine S5.out.mono ?_
        rintro e w4 ⟨rfl, hb4⟩
        have B4 := Lib.hid (below_up B5.out hb4)
        clear hb4 S5 B5 L6
        go_wp2_with fail
        refine (HA.out _).mono ?_
        rintro e wa ⟨rfl, hba⟩
        have BA := Lib.hid (below_up B4.out hba)
        clear hba HA
        go_wp2_with fail
        go_ret
        exact ⟨rfl, BA.out⟩
      · subst hb1
        have S5 := Lib.hid (If.encode_calls _ y _ iv hb2)
        rw [hb4] at S5
        dsimp only at S5
        rw [ba_bs] at S5
        clear hs3 hb3 hb5 DA HD2 iv HSZ BX hb2 hb4
        unfold iB at L6 S5 B5
        go_wp2_with (first | (refine wpList_store_last rfl 76 _ _ rfl _ (ifc y (.slice A' n' a') (.slice B' m' b') (.slice C' k' c')) rfl rfl (IInf _ _ _ _) rfl (one_if _ _ _ _ _ _ _ _ _ _) ?_) | (refine wpList_loadg (by rfl) 76 (.tmp 9) (by rfl) _ (by rfl) _ L6.out ?_))
        refine S5.out.mono ?_
        rintro e w4 ⟨rfl, hb4⟩
        have B4 := Lib.hid (below_up B5.out hb4)
        clear hb4 S5 B5 L6
        go_wp2_with fail
        refine (HA.out _).mono ?_
        rintro e wa ⟨rfl, hba⟩
        have BA := Lib.hid (below_up B4.out hba)
        clear hba HA
        go_wp2_with fail
        go_ret
        exact ⟨rfl, BA.out⟩
end Go.Proofs.Ytcaocnlchfbeaaa.If
