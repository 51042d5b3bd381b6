/- The walk of chapter 30's law ProofBack. -/
import Derived.Test.YtcaocnlchfbeaaaPfE
import Derived.Test.YtcaocnlchfbeaaaPbSize
namespace Go.Proofs.Ytcaocnlchfbeaaa.Pf
open Go.RowKit Go.Proofs.Ytcaocnlchfbeaaa.Mk Go.Proofs.Ytcaocnlchfbeaaa.Op Go.Proofs.Ytcaocnlchfbeaaa.Hd Go.Proofs.Ytcaocnlchfbeaaa.St Go.Proofs.Ytcaocnlchfbeaaa.Cur Go.Proofs.Ytcaocnlchfbeaaa.Stp Go.Proofs.Ytcaocnlchfbeaaa.Tk
/-- what is left of the law behind the first half -/
theorem dec_all (b : List UInt8) : ((decP b).2 ≠ 0 ∧ (decP b).1 = []) ∨ ((decP b).2 = 0 ∧ (∀ a ∈ (decP b).1, OOk a.2) ∧ encP (decP b).1 = (b, 0) ∧ (decP b).1.length * 77 ≤ b.length) := by
  by_cases h : (decP b).2 = 0
  · obtain ⟨h1, h2⟩ := enc_dec (b := b) (l := (decP b).1) (Prod.ext rfl h)
    exact .inr ⟨h, h1, h2, enc_ge h2 (dec_oks b)⟩
  · exact .inl ⟨h, dec_bad h⟩
set_option maxHeartbeats 8000000 in
set_option maxRecDepth 100000 in
theorem lawBack_calls (v1 : Value) (l1 : List HO) (s : ByteArray) (w : World) (h1 : SS w v1 l1) (k1 : ∀ t ∈ l1, t.1.Ok ∧ OOk t.2) (hs : s.size ≤ 140737488351232) :
    Calls Try.prog 9 #[v1, .string s] w fun e w' => e = .returned (.bool true) ∧ Below w.heap.size w w' := by
  have HA := Lib.hid (fun wx => Pf.awake_calls wx)
  have M1 := Lib.hid (much_calls v1 l1 w h1)
  have E1 := Lib.hid (encode_calls v1 l1 w h1 (fun t ht => (k1 t ht).2))
  have hle := encP_le l1 k1
  have DE : Hid ((encP l1).2 = 0 → decP (bs (ba (encP l1).1)) = (l1, 0)) := Lib.hid (fun h => by rw [bs_ba]; exact dec_enc (Prod.ext rfl h) k1)
  have HD := Lib.hid (fun t wx ht => decode_calls t wx ht)
  have HSS := Lib.hid (fun wx (hx : Below w.heap.size w wx) => h1.below hx)
  have DA := Lib.hid (dec_all (bs s))
  have HD2 := Lib.hid (fun wx => decode_calls s wx (by omega))
  rw [bs_len] at DA
  obtain ⟨A, c, rfl, hbd, _⟩ := h1.at_
  clear h1 k1
  generalize hy : decP (bs s) = y at *
  clear hy
  obtain ⟨l2, e2⟩ := y
  generalize encP l1 = z at *
  obtain ⟨p, e0⟩ := z
  dsimp only at *
  have hpl : (ba p).size = p.length := ba_size p
  have HEQ : Hid (∀ q, bs s = q → ba q = s) := Lib.hid (fun q h => by rw [← h, ba_bs])
  by_cases hbig : 40 < l1.length ∨ 6000 < s.size
  · have hcase : 40 < l1.length ∨ (¬ 40 < l1.length ∧ 6000 < s.size) := by omega
    clear hbig E1 HD HD2 DE DA HSS
    rcases hcase with h40 | ⟨h40, h60⟩
    · have t1 : decide ((40 : Int) < (l1.length : Int)) = true := decide_eq_true (by omega)
      go_enter Try.func9, Try.ntmps9
      go_wp2_with fail
      refine M1.out.mono ?_
      rintro e w1 ⟨⟨b1, rfl⟩, rfl⟩
      cases b1 with
      | true =>
        go_wp2_with fail
        refine (HA.out _).mono ?_
        rintro e wa ⟨rfl, hba⟩
        have BA := Lib.hid hba
        clear hba HA
        go_wp2_with fail
        go_ret
        exact ⟨rfl, BA.out⟩
      | false =>
        go_wp2_with fail
        refine (HA.out _).mono ?_
        rintro e wa ⟨rfl, hba⟩
        have BA := Lib.hid hba
        clear hba HA
        go_wp2_with fail
        go_ret
        exact ⟨rfl, BA.out⟩
    · have t1 : decide ((40 : Int) < (l1.length : Int)) = false := decide_eq_false (by omega)
      have t2 : decide ((6000 : Int) < (s.size : Int)) = true := decide_eq_true (by omega)
      go_enter Try.func9, Try.ntmps9
      go_wp2_with fail
      refine M1.out.mono ?_
      rintro e w1 ⟨⟨b1, rfl⟩, rfl⟩
      cases b1 with
      | true =>
        go_wp2_with fail
        refine (HA.out _).mono ?_
        rintro e wa ⟨rfl, hba⟩
        have BA := Lib.hid hba
        clear hba HA
        go_wp2_with fail
        go_ret
        exact ⟨rfl, BA.out⟩
      | false =>
        go_wp2_with fail
        refine (HA.out _).mono ?_
        rintro e wa ⟨rfl, hba⟩
        have BA := Lib.hid hba
        clear hba HA
        go_wp2_with fail
        go_ret
        exact ⟨rfl, BA.out⟩
  have h40 : ¬ 40 < l1.length := fun h => hbig (.inl h)
  have h60 : ¬ 6000 < s.size := fun h => hbig (.inr h)
  have t1 : decide ((40 : Int) < (l1.length : Int)) = false := decide_eq_false (by omega)
  have t2 : decide ((6000 : Int) < (s.size : Int)) = false := decide_eq_false (by omega)
  clear hbig h40 h60
  go_enter Try.func9, Try.ntmps9
  go_wp2_with fail
  refine M1.out.mono ?_
  rintro e w1 ⟨⟨b1, rfl⟩, hw1⟩
  rw [hw1]
  clear hw1 M1
  cases b1 with
  | true =>
    clear E1 HD HD2 DE DA HSS
    go_wp2_with fail
    refine (HA.out _).mono ?_
    rintro e wa ⟨rfl, hba⟩
    have BA := Lib.hid hba
    clear hba HA
    go_wp2_with fail
    go_ret
    exact ⟨rfl, BA.out⟩
  | false =>
    go_wp2_with fail
    refine E1.out.mono ?_
    rintro e w2 ⟨rfl, hb2⟩
    have B2 := Lib.hid hb2
    clear hb2 E1
    go_upto_if 32 with fail
    go_cut [] (fun wx => Hid (Below w.heap.size w wx))
    case first =>
      clear HD2 DA HA
      by_cases he0 : e0 = 0
      · subst he0
        have HD1 := Lib.hid (HD.out (ba p) w2 (by omega))
        rw [DE.out rfl] at HD1
        clear DE HD
        generalize ba p = sp at *
        go_wp2_with fail
        refine HD1.out.mono ?_
        rintro e w3 ⟨v3, rfl, hs3, hb3⟩
        have b3 := below_up B2.out hb3
        have HSm := Lib.hid (sameL_calls v3 _ l1 l1 w3 hs3 (HSS.out _ b3))
        rw [sameL_self] at HSm
        have B3 := Lib.hid b3
        clear hs3 hb3 b3 HSS HD1
        go_wp2_with fail
        refine HSm.out.mono ?_
        rintro e w4 ⟨rfl, hb4⟩
        have B4 := Lib.hid (below_up B3.out hb4)
        clear hb4 HSm
        go_wp2_with fail
        go_meet
        exact B4
      · have t3 : (e0 == 0) = false := by simpa using he0
        clear DE HD he0
        go_wp2_with fail
        go_meet
        exact B2
    case rest =>
      rename World => wx
      rename Hid (Below _ _ _) => BX
      clear B2 DE HD HSS
      go_wp2_with fail
      refine (HD2.out _).mono ?_
      rintro e w3 ⟨v3, rfl, hs3, hb3⟩
      have B3 := Lib.hid (below_up BX.out hb3)
      rcases DA.out with ⟨hb1, hb2⟩ | ⟨hb1, hb2, hb4, hb5⟩
      · subst hb2
        have t3 : (e2 != 0) = true := by simpa using hb1
        obtain ⟨A3, c3, rfl, _, _⟩ := hs3.at_
        clear hs3 hb3 DA HD2 hb1
        go_wp2_with fail
        refine (HA.out _).mono ?_
        rintro e wa ⟨rfl, hba⟩
        have BA := Lib.hid (below_up B3.out hba)
        clear hba HA
        go_wp2_with fail
        go_ret
        exact ⟨rfl, BA.out⟩
      · subst hb1
        have HE := Lib.hid (encode_calls v3 l2 w3 hs3 hb2)
        rw [hb4] at HE
        dsimp only at HE
        rw [ba_bs] at HE
        obtain ⟨A3, c3, rfl, _, _⟩ := hs3.at_
        have q1 : decide ((l2.length : Int) ≤ (s.size : Int).tdiv 77) = true := decide_eq_true (by rw [Int.tdiv_eq_ediv_of_nonneg (by omega)]; omega)
        clear hs3 hb3 DA HD2 hb2 hb4
        go_wp2_with fail
        refine HE.out.mono ?_
        rintro e w4 ⟨rfl, hb6⟩
        have B4 := Lib.hid (below_up B3.out hb6)
        clear hb6 HE
        go_wp2_with fail
        refine (HA.out _).mono ?_
        rintro e wa ⟨rfl, hba⟩
        have BA := Lib.hid (below_up B4.out hba)
        clear hba HA
        go_wp2_with fail
        go_ret
        exact ⟨rfl, BA.out⟩
end Go.Proofs.Ytcaocnlchfbeaaa.Pf
