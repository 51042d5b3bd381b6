/- The walk of chapter 31's awake. -/
import Derived.Test.YtcaocnlchfbeaaaIfDR
import Derived.Test.YtcaocnlchfbeaaaIfS
import Derived.Test.YtcaocnlchfbeaaaIfER
import Derived.Test.YtcaocnlchfbeaaaIfM
namespace Go.Proofs.Ytcaocnlchfbeaaa.If
open Go.RowKit Go.Proofs.Ytcaocnlchfbeaaa.Mk Go.Proofs.Ytcaocnlchfbeaaa.Op Go.Proofs.Ytcaocnlchfbeaaa.Hd Go.Proofs.Ytcaocnlchfbeaaa.St Go.Proofs.Ytcaocnlchfbeaaa.Cur Go.Proofs.Ytcaocnlchfbeaaa.Stp Go.Proofs.Ytcaocnlchfbeaaa.Tk Go.Proofs.Ytcaocnlchfbeaaa.Pf
theorem sameF_self (x : Inf) : sameF x x = true := by
  unfold sameF
  simp [sameL_self, sameO_self]
/-- an infix's value, its three slices in sight -/
theorem IV.sl {w : World} {val : Value} {x : Inf} (h : IV w val x) : ∃ A B C n m k a b c, val = .agg (ifc x (.slice A n a) (.slice B m b) (.slice C k c)) := by
  obtain ⟨v, sv, su, rfl, hs, ho, hu⟩ := h
  obtain ⟨A, c, rfl, hbd, _⟩ := hs.at_
  obtain ⟨_, hpb, A2, c2, rfl, hlc, hcm, _⟩ := ho
  obtain ⟨_, hpb2, A3, c3, rfl, hlc2, hcm2, _⟩ := hu
  exact ⟨_, _, _, _, _, _, _, _, _, rfl⟩
theorem p0 : Num.putL 0 = [0] := Num.putL_one 0 (by decide)
theorem encF0 : encF inf0 = ([0, 0, 0, 0, 0, 0], 0) := by
  have h1 : encP [] = ([0], 0) := encNil
  have h2 : openB op0 = ([0], 0) := by
    unfold openB
    rw [if_pos (by rfl), p0]
  have hm : mayF inf0 = 0 := by
    unfold mayF inf0
    rw [if_neg (by decide), if_neg (by decide)]
  unfold encF
  rw [if_neg (by simp [hm])]
  unfold inf0
  dsimp only
  rw [h1, h2]
  rw [if_neg (by decide), if_neg (by decide), if_neg (by decide)]
  rw [show ByteArray.empty.size = 0 from rfl, show Int.toNat 0 = 0 from rfl, p0]
  rfl
theorem inf0_ok : IOk inf0 := ⟨by decide, by decide, by decide, fun t h => (by cases h), op0_ok, op0_ok⟩
theorem decF0 : decF [0, 0, 0, 0, 0, 0] = (inf0, 0) := dec_enc encF0 inf0_ok
set_option maxHeartbeats 8000000 in
set_option maxRecDepth 100000 in
theorem awake_calls (w : World) : Calls Try.prog 47 #[] w fun e w' => e = .returned (.bool true) ∧ Below w.heap.size w w' := by
  have HE := Lib.hid (encode_calls (.agg (ifc inf0 nl nl nl)) inf0 w (nil_iv w) inf0_ok)
  rw [encF0] at HE
  dsimp only at HE
  have HD := Lib.hid (fun wx => decode_calls (ba [0, 0, 0, 0, 0, 0]) wx (by decide))
  rw [bs_ba, decF0] at HD
  dsimp only at HD
  have HS := Lib.hid (fun v wx (h : IV wx v inf0) => same_calls v (.agg (ifc inf0 nl nl nl)) inf0 inf0 wx h (nil_iv wx))
  rw [sameF_self] at HS
  have hq : ((ba [0, 0, 0, 0, 0, 0]).toList == [0, 0, 0, 0, 0, 0]) = true := by kernel_rfl
  generalize ba [0, 0, 0, 0, 0, 0] = s0 at *
  go_enter Try.func47, Try.ntmps47
  go_wp2_with (refine wpList_value (by rfl) _ (bld_0 (by rfl)) ?_)
  refine HE.out.mono ?_
  rintro e w1 ⟨rfl, hb1⟩
  have B1 := Lib.hid hb1
  clear hb1 HE
  go_wp2_with fail
  refine (HD.out w1).mono ?_
  rintro e w2 ⟨v, rfl, hv, hb2⟩
  obtain ⟨A, B, C, n, m, k, a, b, c, rfl⟩ := hv.sl
  have hb3 : Below w2.heap.size w2 (w2.alloc (iB inf0 (.slice A n a) (.slice B m b) (.slice C k c))) := (Below.refl _ _).alloc (Nat.le_refl _) _
  have L3 := Lib.hid (ldI (heap_new w2 (iB inf0 (.slice A n a) (.slice B m b) (.slice C k c))))
  have S3 := Lib.hid (HS.out _ _ (hv.below hb3))
  have B3 := Lib.hid (below_up (below_up B1.out hb2) hb3)
  clear hb2 hb3 hv HS HD B1
  unfold iB at S3 B3 L3
  go_wp2_with (first | (refine wpList_value (by rfl) _ (bld_0 (by rfl)) ?_) | (refine wpList_store_last rfl 76 _ _ rfl _ (ifc inf0 (.slice A n a) (.slice B m b) (.slice C k c)) rfl rfl (IInf _ _ _ _) rfl (one_if _ _ _ _ _ _ _ _ _ _) ?_) | (refine wpList_loadg (by rfl) 76 (.tmp 3) (by rfl) _ (by rfl) _ L3.out ?_))
  refine S3.out.mono ?_
  rintro e w4 ⟨rfl, hb4⟩
  have B4 := Lib.hid (below_up B3.out hb4)
  clear hb4
  go_wp2_with fail
  go_ret
  exact ⟨rfl, B4.out⟩
end Go.Proofs.Ytcaocnlchfbeaaa.If
