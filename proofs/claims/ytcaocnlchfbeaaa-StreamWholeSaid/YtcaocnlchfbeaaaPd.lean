/- The walk of proof.Decode. -/
import Derived.Test.YtcaocnlchfbeaaaPg
namespace Go.Proofs.Ytcaocnlchfbeaaa.Pf
open Go.RowKit Go.Proofs.Ytcaocnlchfbeaaa.Mk Go.Proofs.Ytcaocnlchfbeaaa.Op Go.Proofs.Ytcaocnlchfbeaaa.Hd Go.Proofs.Ytcaocnlchfbeaaa.St Go.Proofs.Ytcaocnlchfbeaaa.Cur Go.Proofs.Ytcaocnlchfbeaaa.Stp Go.Proofs.Ytcaocnlchfbeaaa.Tk
theorem getP_len (c : C) : (getP c).2.b.length ≤ c.b.length := by
  have h1 := steps_len (headC c).1 (headC c).2 []
  have h2 := head_len c
  unfold getP
  split <;> exact Nat.le_trans h1 h2
set_option maxHeartbeats 4000000 in
set_option maxRecDepth 100000 in
theorem decode_calls (s : ByteArray) (w : World) (hs : s.size ≤ 9223372036854775807) :
    Calls Try.prog 32 #[.string s] w fun r w' => ∃ v, r = .returned (.tuple #[v, .int .i64 (decP (bs s)).2]) ∧ SS w' v (decP (bs s)).1 ∧ Below w.heap.size w w' := by
  have hl : (bs s).length ≤ 9223372036854775807 := by rw [bs_len]; exact hs
  have HG := Lib.hid (fun b W (hW : CU b ⟨bs s, 0⟩ W) => get_calls b ⟨bs s, 0⟩ W hW hl)
  have hd : decP (bs s) = if doneC (getP ⟨bs s, 0⟩).2 ≠ 0 then ([], doneC (getP ⟨bs s, 0⟩).2) else ((getP ⟨bs s, 0⟩).1, 0) := rfl
  have hgl := getP_len ⟨bs s, 0⟩
  generalize decP (bs s) = z at *
  generalize getP ⟨bs s, 0⟩ = x at *
  obtain ⟨l, d⟩ := x
  simp only at hd HG hgl
  have HD := Lib.hid (fun b W (hW : CU b d W) => done_calls b d W hW (Nat.le_trans hgl hl))
  generalize doneC d = e at *
  clear hgl hl
  by_cases he : e = 0
  · subst he
    obtain rfl : z = (l, 0) := hd.trans (if_neg (by decide))
    clear hd
    go_enter Try.func32, Try.ntmps32
    go_wp2_with fail
    refine (read_calls _ _).mono ?_
    rintro r w1 ⟨rfl, hu1, hb1⟩
    have U1 := Lib.hid hu1
    have B1 := Lib.hid hb1
    clear hu1 hb1
    go_wp2_with fail
    refine (HG.out _ _ U1.out).mono ?_
    rintro r w2 ⟨v2, ts, rfl, hr2, hl2, hn2, hu2, hw2⟩
    have U2 := Lib.hid hu2
    have R2 := Lib.hid (show SS w2 v2 l from hl2 ▸ hr2.ss (by omega))
    have B2 := Lib.hid (B1.out.trans (hw2.below B1.out.size (Nat.le_refl _)))
    clear hu2 hr2 hl2 hn2 hw2 U1 B1
    go_wp2_with fail
    refine (HD.out _ _ U2.out).mono ?_
    rintro r w3 ⟨rfl, rfl⟩
    go_wp2_with fail
    go_ret2
    exact ⟨_, rfl, R2.out, B2.out⟩
  · obtain rfl : z = ([], e) := hd.trans (if_pos he)
    have t1 : (e != 0) = true := by simpa using he
    clear hd he
    go_enter Try.func32, Try.ntmps32
    go_wp2_with fail
    refine (read_calls _ _).mono ?_
    rintro r w1 ⟨rfl, hu1, hb1⟩
    have U1 := Lib.hid hu1
    have B1 := Lib.hid hb1
    clear hu1 hb1
    go_wp2_with fail
    refine (HG.out _ _ U1.out).mono ?_
    rintro r w2 ⟨v2, ts, rfl, hr2, hl2, hn2, hu2, hw2⟩
    have U2 := Lib.hid hu2
    have B2 := Lib.hid (B1.out.trans (hw2.below B1.out.size (Nat.le_refl _)))
    clear hu2 hr2 hl2 hn2 hw2 U1 B1
    go_wp2_with fail
    refine (HD.out _ _ U2.out).mono ?_
    rintro r w3 ⟨rfl, rfl⟩
    go_wp2_with fail
    go_ret2
    exact ⟨_, rfl, SS.nil _, B2.out⟩
end Go.Proofs.Ytcaocnlchfbeaaa.Pf
