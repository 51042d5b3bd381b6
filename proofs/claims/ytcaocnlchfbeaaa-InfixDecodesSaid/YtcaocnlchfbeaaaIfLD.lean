/- The walk of chapter 31's law InfixDecodes. -/
import Derived.Test.YtcaocnlchfbeaaaIfAw
namespace Go.Proofs.Ytcaocnlchfbeaaa.If
open Go.RowKit Go.Proofs.Ytcaocnlchfbeaaa.Mk Go.Proofs.Ytcaocnlchfbeaaa.Op Go.Proofs.Ytcaocnlchfbeaaa.Hd Go.Proofs.Ytcaocnlchfbeaaa.St Go.Proofs.Ytcaocnlchfbeaaa.Cur Go.Proofs.Ytcaocnlchfbeaaa.Stp Go.Proofs.Ytcaocnlchfbeaaa.Tk Go.Proofs.Ytcaocnlchfbeaaa.Pf
set_option maxHeartbeats 8000000 in
set_option maxRecDepth 100000 in
theorem lawDecodes_calls (s : ByteArray) (w : World) (hs : s.size ≤ 140737488351232) : Calls Try.prog 11 #[.string s] w fun e w' => e = .returned (.bool true) ∧ Below w.heap.size w w' := by
  have HA := Lib.hid (fun wx => If.awake_calls wx)
  by_cases hm : 8000 < s.size
  · have t1 : decide ((8000 : Int) < (s.size : Int)) = true := decide_eq_true (by omega)
    go_enter Try.func11, Try.ntmps11
    go_wp2_with fail
    refine (HA.out _).mono ?_
    rintro e w1 ⟨rfl, hb1⟩
    have B1 := Lib.hid hb1
    clear hb1
    go_wp2_with fail
    go_ret
    exact ⟨rfl, B1.out⟩
  have t1 : decide ((8000 : Int) < (s.size : Int)) = false := decide_eq_false (by omega)
  have HD := Lib.hid (fun wx => If.decode_calls s wx (by omega))
  have HR := Lib.hid (fun wx => If.rdecode_calls s wx (by omega))
  have HS := Lib.hid (fun v1 v2 x wx (h1 : IV wx v1 x) (h2 : IV wx v2 x) => rsame_calls v1 v2 x x wx h1 h2)
  simp only [sameF_self] at HS
  clear hm
  generalize decF (bs s) = y at *
  obtain ⟨x, e0⟩ := y
  go_enter Try.func11, Try.ntmps11
  go_wp2_with fail
  refine (HD.out w).mono ?_
  rintro e w2 ⟨v, rfl, hv, hb2⟩
  obtain ⟨A, B, C, n, m, k, a, b, c, rfl⟩ := hv.sl
  have hb3 : Below w2.heap.size w2 (w2.alloc (iB x (.slice A n a) (.slice B m b) (.slice C k c))) := (Below.refl _ _).alloc (Nat.le_refl _) _
  have hl3 := heap_new w2 (iB x (.slice A n a) (.slice B m b) (.slice C k c))
  have G3 := Lib.hid (And.intro (hv.below hb3) (below_up hb2 hb3))
  have K3 := Lib.hid hl3
  clear hb2 hb3 hl3 hv HD
  unfold iB at G3 K3
  go_wp2_with (first | (refine wpList_store_last rfl 76 _ _ rfl _ (ifc x (.slice A n a) (.slice B m b) (.slice C k c)) rfl rfl (IInf _ _ _ _) rfl (one_if _ _ _ _ _ _ _ _ _ _) ?_))
  generalize World.alloc w2 _ = W3 at *
  refine (HR.out W3).mono ?_
  rintro e w4 ⟨v4, rfl, hv4, hb4⟩
  obtain ⟨A', B', C', n', m', k', a', b', c', rfl⟩ := hv4.sl
  have hb5 : Below w4.heap.size w4 (w4.alloc (iB x (.slice A' n' a') (.slice B' m' b') (.slice C' k' c'))) := (Below.refl _ _).alloc (Nat.le_refl _) _
  have hk := (hb4.block _ (Array.getElem?_eq_some_iff.1 K3.out).1).trans K3.out
  have L5 := Lib.hid (ldI (((hb5.block _ (Array.getElem?_eq_some_iff.1 hk).1)).trans hk))
  have L6 := Lib.hid (ldI (heap_new w4 (iB x (.slice A' n' a') (.slice B' m' b') (.slice C' k' c'))))
  have S5 := Lib.hid (HS.out _ _ x _ ((G3.out.1.below hb4).below hb5) (hv4.below hb5))
  have B5 := Lib.hid (below_up (below_up G3.out.2 hb4) hb5)
  clear hv4 hb4 hb5 hk G3 K3 HR HS
  unfold iB at L5 L6 S5 B5
  obtain ⟨g, hg⟩ : ∃ g, g = w2.heap.size := ⟨_, rfl⟩
  rw [← hg] at L5
  rw [← hg]
  clear hg
  go_wp2_with (first | (refine wpList_store_last rfl 76 _ _ rfl _ (ifc x (.slice A' n' a') (.slice B' m' b') (.slice C' k' c')) rfl rfl (IInf _ _ _ _) rfl (one_if _ _ _ _ _ _ _ _ _ _) ?_) | (refine wpList_loadg (by rfl) 76 (.tmp 3) (by rfl) _ (by rfl) _ L5.out ?_) | (refine wpList_loadg (by rfl) 76 (.tmp 5) (by rfl) _ (by rfl) _ L6.out ?_))
  refine S5.out.mono ?_
  rintro e w6 ⟨rfl, hb6⟩
  have B6 := Lib.hid (below_up B5.out hb6)
  clear hb6 S5 B5
  go_wp2_with fail
  refine (HA.out _).mono ?_
  rintro e w7 ⟨rfl, hb7⟩
  have B7 := Lib.hid (below_up B6.out hb7)
  clear hb7
  go_wp2_with fail
  go_ret
  exact ⟨rfl, B7.out⟩
end Go.Proofs.Ytcaocnlchfbeaaa.If
