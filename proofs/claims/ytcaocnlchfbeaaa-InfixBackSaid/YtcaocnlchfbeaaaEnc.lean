/- The walks of Encode of a proof, and of the document's. -/
import Derived.Test.YtcaocnlchfbeaaaPutW
namespace Go.Proofs.Ytcaocnlchfbeaaa.Pf
open Go.RowKit Go.Proofs.Ytcaocnlchfbeaaa.Mk Go.Proofs.Ytcaocnlchfbeaaa.Op Go.Proofs.Ytcaocnlchfbeaaa.Hd Go.Proofs.Ytcaocnlchfbeaaa.St Go.Proofs.Ytcaocnlchfbeaaa.Cur Go.Proofs.Ytcaocnlchfbeaaa.Stp Go.Proofs.Ytcaocnlchfbeaaa.Tk
open Go.Proofs.Ytcaocnlchfbeaaa.Buf (QB QW qv cat raw_calls bnum_calls new_calls bytes_calls)
theorem encP_no (l : List HO) (h : (encP l).2 ≠ 0) : (encP l).1 = [] := by
  unfold encP at *
  split
  · rfl
  · rename_i h1
    rw [if_neg h1] at h
    unfold cmb at *
    split
    · rfl
    · rename_i h2
      rw [if_neg h2] at h
      exact absurd rfl h
set_option maxHeartbeats 4000000 in
theorem encode_calls (v : Value) (l : List HO) (w : World) (hs : SS w v l) (ok : ∀ t ∈ l, OOk t.2) :
    Calls Try.prog 39 #[v] w fun e w' => e = .returned (.tuple #[.string (ba (encP l).1), .int .i64 (encP l).2]) ∧ Below w.heap.size w w' := by
  have HS := Lib.hid hs
  have OK := Lib.hid ok
  have HN := Lib.hid (new_calls w)
  have hno := encP_no l
  clear hs ok
  generalize hz : encP l = z at *
  obtain ⟨z1, z2⟩ := z
  go_enter Try.func39, Try.ntmps39
  go_wp2_with fail
  refine HN.out.mono ?_
  rintro e w1 ⟨rfl, h1, hb1⟩
  have HP := put_calls w.heap.size (some w.heap.size) none [] v l w1 h1 (HS.out.below hb1) OK.out (by simp)
  rw [hz] at HP
  have HP1 := Lib.hid HP
  have H1 := Lib.hid h1
  have B1 := Lib.hid hb1
  clear HP h1 hb1 hz HS OK HN
  go_wp2_with fail
  refine HP1.out.mono ?_
  rintro e w2 ⟨rfl, r2, h2, hw2⟩
  have B2 := Lib.hid (B1.out.trans (hw2.below H1.out))
  have HB := Lib.hid (bytes_calls w.heap.size (some w.heap.size) r2 _ w2 h2)
  have H2 := Lib.hid h2
  clear h2 hw2 HP1 H1 B1
  by_cases hq : z2 = 0
  · subst hq
    go_wp2_with fail
    refine HB.out.mono ?_
    rintro e w3 ⟨rfl, h3, hw3⟩
    have B3 := Lib.hid (B2.out.trans (hw3.below H2.out))
    clear h3 hw3
    go_wp2_with fail
    go_ret2
    exact ⟨ret_se (by simp) rfl, B3.out⟩
  · have t1 : (z2 != 0) = true := by simpa using hq
    have e1 : z1 = [] := hno hq
    subst e1
    clear hq hno
    go_wp2_with fail
    go_ret2
    exact ⟨ret_se rfl rfl, B2.out⟩
set_option maxHeartbeats 8000000 in
set_option maxRecDepth 100000 in
theorem rencode_calls (v : Value) (l : List HO) (w : World) (hs : SS w v l) (ok : ∀ t ∈ l, OOk t.2) :
    Calls Try.prog 40 #[v] w fun e w' => e = .returned (.tuple #[.string (ba (encP l).1), .int .i64 (encP l).2]) ∧ Below w.heap.size w w' := by
  obtain ⟨A, c, rfl, hbd, _⟩ := hs.at_
  have AT := Lib.hid (fun wx (hx : Below w.heap.size w wx) => (hs.below hx).at_)
  have OK := Lib.hid ok
  clear hs ok
  by_cases hm : 1024 < l.length
  · have t1 : decide ((1024 : Int) < (l.length : Int)) = true := decide_eq_true (by omega)
    have HE := Lib.hid (show encP l = ([], 4) from if_pos hm)
    clear hm
    go_enter Try.func40, Try.ntmps40
    go_wp2_with fail
    go_ret2
    exact ⟨ret_se (by rw [HE.out]; rfl) (by rw [HE.out]), Below.refl _ _⟩
  · have t1 : decide ((1024 : Int) < (l.length : Int)) = false := decide_eq_false (by omega)
    have i1 : l.length ≤ 1024 := by omega
    have hm' : Hid (¬ 1024 < l.length) := Lib.hid hm
    have HN := Lib.hid (Num.rput_calls l.length w (by omega))
    have HPL := Lib.hid (Num.putL_len10 l.length (by omega))
    have HSt := Lib.hid rstep_calls
    clear hm
    go_enter Try.func40, Try.ntmps40
    go_wp2_with fail
    refine HN.out.mono ?_
    rintro e w1 ⟨rfl, hb1⟩
    have B1 := Lib.hid hb1
    clear hb1 HN
    go_wp2_with fail
    go_loopw [4, 5] (fun s4 s5 wr => ∃ (k : Nat) (p : List UInt8), s5 = .int .i64 (k : Int) ∧ k ≤ l.length ∧ s4 = .string (ba (Num.putL l.length ++ p)) ∧ Hid (bytesP l = cmb p (bytesP (l.drop k)) ∧ p.length ≤ k * 2176) ∧ Hid (Below w.heap.size w wr)) (fun _ s5 _ => l.length - (intOf s5).toNat)
    case atStart => exact ⟨0, [], rfl, by omega, by rw [List.append_nil], Lib.hid ⟨by rw [List.drop_zero]; exact (cmb_nil _ (bytes_no l)).symm, by simp⟩, B1⟩
    case round =>
      obtain ⟨k, p, rfl, hk, rfl, HF, hB⟩ := hrel
      by_cases hlt : k < l.length
      · obtain ⟨_, _, he, _, hx⟩ := AT.out _ hB.out
        cases he
        obtain ⟨b1, o1, t, rfl, ok1, e1, s1, r1⟩ := hx k hlt
        have ho : OOk t.o := by
          have := OK.out l[k] (List.getElem_mem hlt)
          rw [← e1] at this
          exact this
        have LW := Lib.hid (ld_at ok1 r1)
        have P1 := Lib.hid (rstep_calls t.h t.o _ wr ⟨t.v, rfl, s1⟩ ok1 ho)
        have HE2 := Lib.hid (show stepB l[k].1 l[k].2 = stepB t.h t.o by rw [← e1]; rfl)
        have HL := Lib.hid (stepB_le t.h t.o ok1 ho)
        have i2 : (k : Int) < (l.length : Int) := by omega
        clear hx e1 s1 r1 ok1 ho OK HSt AT
        by_cases hq : (stepB t.h t.o).2 = 0
        · have HF2 := Lib.hid (bytes_more hlt HF.out.1 (by rw [HE2.out]; exact hq))
          rw [HE2.out] at HF2
          have hl2 : p.length ≤ k * 2176 := HF.out.2
          have hl3 := HL.out
          have hl4 := HPL.out
          clear HF HE2 HL
          generalize stepB t.h t.o = z at *
          obtain ⟨z1, z2⟩ := z
          obtain rfl : z2 = 0 := hq
          change z1.length ≤ 2176 at hl3
          have hadd : ¬ 9223372036854775807 < (ba (Num.putL l.length ++ p)).size + (ba z1).size := by rw [ba_size, ba_size, List.length_append]; omega
          have HL3 := Lib.hid (show (p ++ z1).length ≤ (k + 1) * 2176 by rw [List.length_append]; omega)
          clear hl2 hl3 hl4
          have HA := Lib.hid (ba_append (Num.putL l.length ++ p) z1)
          rw [List.append_assoc] at HA
          generalize hs4 : ba (Num.putL l.length ++ p) = s4 at *
          go_wp2_with (refine wpList_loadg (by rfl) 43 (.tmp 24) (by rfl) _ (by rfl) _ LW.out ?_)
          refine P1.out.mono ?_
          rintro x1 w2 ⟨rfl, hb2⟩
          have B2 := Lib.hid (below_up hB.out hb2)
          clear hb2 hB
          go_wp2_with fail
          go_roundw
          case rel => exact ⟨k + 1, p ++ z1, by go_num, by omega, by rw [HA.out], Lib.hid ⟨HF2.out, HL3.out⟩, B2⟩
          case measure => simp [intOf] <;> omega
        · have HE := Lib.hid (encP_stop hm'.out (bytes_stop hlt HF.out.1 (by rw [HE2.out]; exact hq)) (by rw [HE2.out]; exact hq))
          rw [HE2.out] at HE
          clear HF HE2 HL
          generalize stepB t.h t.o = z at *
          obtain ⟨z1, z2⟩ := z
          have t1 : (z2 != 0) = true := by simpa using hq
          clear hq
          go_wp2_with (refine wpList_loadg (by rfl) 43 (.tmp 24) (by rfl) _ (by rfl) _ LW.out ?_)
          refine P1.out.mono ?_
          rintro x1 w2 ⟨rfl, hb2⟩
          have B2 := Lib.hid (below_up hB.out hb2)
          clear hb2 hB
          go_wp2_with fail
          go_ret2
          exact ⟨ret_se (by rw [HE.out]; rfl) (by rw [HE.out]), B2.out⟩
      · obtain rfl : k = l.length := by omega
        have HE := Lib.hid (encP_done hm'.out HF.out.1)
        have t2 : decide ((l.length : Int) < (l.length : Int)) = false := decide_eq_false (by omega)
        clear HF OK AT HSt
        go_wp2_with fail
        go_ret2
        exact ⟨ret_se (by rw [HE.out]) (by rw [HE.out]), hB.out⟩
end Go.Proofs.Ytcaocnlchfbeaaa.Pf
