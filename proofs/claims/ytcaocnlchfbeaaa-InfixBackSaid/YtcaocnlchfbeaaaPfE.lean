/- The walk of chapter 30's law ProofEncodes. -/
import Derived.Test.YtcaocnlchfbeaaaMuch30
import Derived.Test.YtcaocnlchfbeaaaPs
namespace Go.Proofs.Ytcaocnlchfbeaaa.Pf
open Go.RowKit Go.Proofs.Ytcaocnlchfbeaaa.Mk Go.Proofs.Ytcaocnlchfbeaaa.Op Go.Proofs.Ytcaocnlchfbeaaa.Hd Go.Proofs.Ytcaocnlchfbeaaa.St Go.Proofs.Ytcaocnlchfbeaaa.Cur Go.Proofs.Ytcaocnlchfbeaaa.Stp Go.Proofs.Ytcaocnlchfbeaaa.Tk
open Go.Proofs.Ytcaocnlchfbeaaa.Buf (QB QW qv cat raw_new bnum_calls new_calls bytes_calls cat_one cells_one)
theorem bytes_le : ∀ (l : List HO), (∀ t ∈ l, t.1.Ok ∧ OOk t.2) → (bytesP l).1.length ≤ l.length * 2176
  | [], _ => by simp [bytesP]
  | a :: l, h => by
    have h1 := bytes_le l (fun t ht => h t (List.mem_cons_of_mem _ ht))
    have h2 := stepB_le a.1 a.2 (h a (List.mem_cons_self ..)).1 (h a (List.mem_cons_self ..)).2
    unfold bytesP cmb
    rw [List.length_cons]
    split
    · simp
    · split
      · simp
      · simp only [List.length_append]; omega
theorem encP_le (l : List HO) (h : ∀ t ∈ l, t.1.Ok ∧ OOk t.2) : (encP l).1.length ≤ 3000000 := by
  have h1 := bytes_le l h
  unfold encP cmb
  split
  · simp
  · split
    · simp
    · have := Num.putL_len10 l.length (by omega)
      simp only [List.length_append]
      omega
set_option maxHeartbeats 8000000 in
set_option maxRecDepth 100000 in
theorem lawEncodes_calls (v1 v2 : Value) (l1 l2 : List HO) (s : ByteArray) (w : World) (h1 : SS w v1 l1) (h2 : SS w v2 l2) (k1 : ∀ t ∈ l1, t.1.Ok ∧ OOk t.2) (_k2 : ∀ t ∈ l2, t.1.Ok ∧ OOk t.2) (hs : s.size ≤ 140737488351232) :
    Calls Try.prog 8 #[v1, v2, .string s] w fun e w' => e = .returned (.bool true) ∧ Below w.heap.size w w' := by
  have HA := Lib.hid (fun wx => Pf.awake_calls wx)
  have M1 := Lib.hid (much_calls v1 l1 w h1)
  have M2 := Lib.hid (much_calls v2 l2 w h2)
  have hok : ∀ t ∈ l1, OOk t.2 := fun t ht => (k1 t ht).2
  have E1 := Lib.hid (encode_calls v1 l1 w h1 hok)
  have E2 := Lib.hid (fun wx (hx : Below w.heap.size w wx) => rencode_calls v1 l1 wx (h1.below hx) hok)
  have PU := Lib.hid (fun B q r l0 wx (hq : QB B q r l0 wx) (hx : Below w.heap.size w wx) hlen => put_calls B q r l0 v1 l1 wx hq (h1.below hx) hok hlen)
  have A1 := Lib.hid (fun wx (hx : Below w.heap.size w wx) => sameL_calls v1 v2 l1 l2 wx (h1.below hx) (h2.below hx))
  have A2 := Lib.hid (fun wx (hx : Below w.heap.size w wx) => rsameL_calls v1 v2 l1 l2 wx (h1.below hx) (h2.below hx))
  have A3 := Lib.hid (fun wx (hx : Below w.heap.size w wx) => sameL_calls v1 v1 l1 l1 wx (h1.below hx) (h1.below hx))
  rw [sameL_self] at A3
  have hle := encP_le l1 k1
  clear h1 h2 k1 hok
  generalize sameL l1 l2 = bb at *
  generalize encP l1 = z at *
  obtain ⟨p, e0⟩ := z
  dsimp only at *
  have hpl : (ba p).size = p.length := ba_size p
  have HC : Hid (ba (bs s ++ p) = s ++ ba p) := Lib.hid (by rw [← ba_append, ba_bs])
  by_cases hm : 1000 < s.size
  · have t1 : decide ((1000 : Int) < (s.size : Int)) = true := decide_eq_true (by omega)
    clear E1 E2 PU A1 A2 A3 hm
    go_enter Try.func8, Try.ntmps8
    go_wp2_with fail
    refine M1.out.mono ?_
    rintro e w1 ⟨⟨b1, rfl⟩, rfl⟩
    cases b1 with
    | true =>
      go_wp2_with fail
      refine (HA.out _).mono ?_
      rintro e wa ⟨rfl, hba⟩
      have BA := Lib.hid hba
      clear hba HA
      go_wp2_with fail
      go_ret
      exact ⟨rfl, BA.out⟩
    | false =>
      go_wp2_with fail
      refine M2.out.mono ?_
      rintro e w2 ⟨⟨b2, rfl⟩, rfl⟩
      cases b2 with
      | true =>
        go_wp2_with fail
        refine (HA.out _).mono ?_
        rintro e wa ⟨rfl, hba⟩
        have BA := Lib.hid hba
        clear hba HA
        go_wp2_with fail
        go_ret
        exact ⟨rfl, BA.out⟩
      | false =>
        go_wp2_with fail
        refine (HA.out _).mono ?_
        rintro e wa ⟨rfl, hba⟩
        have BA := Lib.hid hba
        clear hba HA
        go_wp2_with fail
        go_ret
        exact ⟨rfl, BA.out⟩
  have t1 : decide ((1000 : Int) < (s.size : Int)) = false := decide_eq_false (by omega)
  go_enter Try.func8, Try.ntmps8
  go_wp2_with fail
  refine M1.out.mono ?_
  rintro e w1 ⟨⟨b1, rfl⟩, rfl⟩
  cases b1 with
  | true =>
    clear E1 E2 PU A1 A2 A3
    go_wp2_with fail
    refine (HA.out _).mono ?_
    rintro e wa ⟨rfl, hba⟩
    have BA := Lib.hid hba
    clear hba HA
    go_wp2_with fail
    go_ret
    exact ⟨rfl, BA.out⟩
  | false =>
    go_wp2_with fail
    refine M2.out.mono ?_
    rintro e w2 ⟨⟨b2, rfl⟩, rfl⟩
    cases b2 with
    | true =>
      clear E1 E2 PU A1 A2 A3
      go_wp2_with fail
      refine (HA.out _).mono ?_
      rintro e wa ⟨rfl, hba⟩
      have BA := Lib.hid hba
      clear hba HA
      go_wp2_with fail
      go_ret
      exact ⟨rfl, BA.out⟩
    | false =>
      clear M1 M2
      go_wp2_with fail
      refine E1.out.mono ?_
      rintro e w3 ⟨rfl, hb3⟩
      have B3 := Lib.hid hb3
      have E3 := Lib.hid (E2.out _ hb3)
      clear hb3 E1 E2
      go_wp2_with fail
      refine E3.out.mono ?_
      rintro e w4 ⟨rfl, hb4⟩
      have B4 := Lib.hid (below_up B3.out hb4)
      clear hb4 B3 E3
      go_wp2_with fail
      refine (new_calls _).mono ?_
      rintro e w5 ⟨rfl, hq5, hb5⟩
      have Q5 := Lib.hid hq5
      have B5 := Lib.hid hb5
      have R5 := Lib.hid (raw_new w4.heap.size (some w4.heap.size) none [] [s] w5 (w5.alloc (.cells #[.string s] 9)) w5.heap.size 1 9 hq5 ((Below.refl _ _).alloc (Nat.le_refl _) _) (by rw [cells_one]; exact heap_new _ _) (Nat.le_refl _) rfl (by simp) (by rw [cat_one]; simp only [List.length_nil, bs_len]; omega))
      rw [cat_one, List.nil_append] at R5
      clear hq5 hb5
      go_wp2_with fail
      refine R5.out.mono ?_
      rintro e w6 ⟨rfl, r6, hq6, hw6⟩
      have b46 := B5.out.trans (hw6.below Q5.out)
      have P7 := Lib.hid (PU.out _ _ _ _ w6 hq6 (below_up B4.out b46) (by rw [bs_len]; omega))
      have Q6 := Lib.hid hq6
      have B46 := Lib.hid b46
      clear hq6 hw6 b46 PU Q5 B5 R5
      go_wp2_with fail
      refine P7.out.mono ?_
      rintro e w7 ⟨rfl, r7, hq7, hw7⟩
      have b47 := B46.out.trans (hw7.below Q6.out)
      have HB := Lib.hid (show Calls Try.prog 44 #[qv (some w4.heap.size)] w7 fun e w' => e = .returned (.string (s ++ ba p)) ∧ Below w2.heap.size w2 w' from
        (bytes_calls _ _ _ _ w7 hq7).mono fun e w8 ⟨he, hq8, hw8⟩ => ⟨he.trans (by rw [if_neg (by simp), HC.out]), below_up B4.out (b47.trans (hw8.below hq7))⟩)
      have hadd : ¬ 9223372036854775807 < s.size + (ba p).size := by omega
      clear hq7 hw7 b47 P7 Q6 B46 HC B4
      generalize ba p = sp at *
      go_wp2_with fail
      refine HB.out.mono ?_
      rintro e w8 ⟨rfl, hb8⟩
      have B8 := Lib.hid hb8
      have X1 := Lib.hid (A1.out _ hb8)
      clear hb8 HB A1
      go_wp2_with fail
      refine X1.out.mono ?_
      rintro e w9 ⟨rfl, hb9⟩
      have B9 := Lib.hid (below_up B8.out hb9)
      have X2 := Lib.hid (A2.out _ (below_up B8.out hb9))
      clear hb9 X1 A2 B8
      go_wp2_with fail
      refine X2.out.mono ?_
      rintro e w10 ⟨rfl, hb10⟩
      have B10 := Lib.hid (below_up B9.out hb10)
      have X3 := Lib.hid (A3.out _ (below_up B9.out hb10))
      clear hb10 X2 A3 B9
      go_wp2_with fail
      refine X3.out.mono ?_
      rintro e w11 ⟨rfl, hb11⟩
      have B11 := Lib.hid (below_up B10.out hb11)
      clear hb11 X3 B10
      go_wp2_with fail
      refine (HA.out _).mono ?_
      rintro e w12 ⟨rfl, hb12⟩
      have B12 := Lib.hid (below_up B11.out hb12)
      clear hb12 HA B11
      go_wp2_with fail
      go_ret
      exact ⟨rfl, B12.out⟩
end Go.Proofs.Ytcaocnlchfbeaaa.Pf
