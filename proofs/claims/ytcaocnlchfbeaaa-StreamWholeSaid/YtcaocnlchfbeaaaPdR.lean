/- The walk of the document's Decode of a proof. -/
import Derived.Test.YtcaocnlchfbeaaaPgR
import Derived.Test.YtcaocnlchfbeaaaPd
namespace Go.Proofs.Ytcaocnlchfbeaaa.Pf
open Go.RowKit Go.Proofs.Ytcaocnlchfbeaaa.Mk Go.Proofs.Ytcaocnlchfbeaaa.Op Go.Proofs.Ytcaocnlchfbeaaa.Hd Go.Proofs.Ytcaocnlchfbeaaa.St Go.Proofs.Ytcaocnlchfbeaaa.Cur Go.Proofs.Ytcaocnlchfbeaaa.Stp Go.Proofs.Ytcaocnlchfbeaaa.Tk
set_option maxHeartbeats 4000000 in
set_option maxRecDepth 100000 in
theorem rdecode_calls (s : ByteArray) (w : World) (hs : s.size ≤ 9223372036854775807) :
    Calls Try.prog 35 #[.string s] w fun r w' => ∃ v, r = .returned (.tuple #[v, .int .i64 (decP (bs s)).2]) ∧ SS w' v (decP (bs s)).1 ∧ Below w.heap.size w w' := by
  have hl : (bs s).length ≤ 9223372036854775807 := by rw [bs_len]; exact hs
  have HG := Lib.hid (fun W => rget_calls ⟨bs s, 0⟩ W hl)
  have hd : decP (bs s) = if doneC (getP ⟨bs s, 0⟩).2 ≠ 0 then ([], doneC (getP ⟨bs s, 0⟩).2) else ((getP ⟨bs s, 0⟩).1, 0) := rfl
  generalize decP (bs s) = z at *
  generalize getP ⟨bs s, 0⟩ = x at *
  obtain ⟨l, d⟩ := x
  simp only at hd HG
  have HD := Lib.hid (fun W => rdone_calls d W)
  generalize doneC d = e at *
  unfold cV cC at *
  rw [ba_bs] at HG
  have hc0 : ∀ wx, (Instr.build 45 #[(0, .string s)]).run Try.prog wx = .ok (.agg #[.string s, .int .i64 0]) wx := fun wx => by kernel_rfl
  by_cases he : e = 0
  all_goals
    first
    | (subst he; obtain rfl : z = (l, 0) := hd.trans (if_neg (by decide)); have t1 : True := trivial)
    | (obtain rfl : z = ([], e) := hd.trans (if_pos he); have t1 : (e != 0) = true := by simpa using he)
    clear hd
    go_enter Try.func35, Try.ntmps35
    go_wp2_with fail
    refine (HG.out _).mono ?_
    rintro r w1 ⟨v1, ts, rfl, hr1, hl1, hn1, hb1⟩
    have R1 := Lib.hid (show SS w1 v1 l from hl1 ▸ hr1.ss (by omega))
    have B1 := Lib.hid hb1
    clear hr1 hl1 hn1 hb1
    have hba : Below w1.heap.size w1 ((w1.alloc (cO ⟨[], 0⟩)).setRow w1.heap.size #[.string (ba d.b), .int .i64 d.e]) := below_row ((Below.refl _ _).alloc (Nat.le_refl _) _) (Nat.le_refl _)
    have R2 := Lib.hid (R1.out.below hba)
    have B2 := Lib.hid (below_up B1.out hba)
    clear hba R1 B1
    go_wp2_with (first | (refine wpList_store_row (by rfl) 45 _ _ (by rfl) w1.heap.size #[.string (ba d.b), .int .i64 d.e] (by rfl) (by rfl) _ _ (heap_new _ _) (Tk.IC2 _ _) rfl (Tk.oneC _ _) ?_) | (refine wpList_loadg (by rfl) 45 (.tmp 5) (by rfl) _ (by rfl) _ (Tk.ldC (setRow_heap _ _ _ _ _ _ (heap_new _ _))) ?_))
    refine (HD.out _).mono ?_
    rintro r w3 ⟨rfl, hb3⟩
    have R3 := Lib.hid (R2.out.below hb3)
    have B3 := Lib.hid (below_up B2.out hb3)
    clear hb3 R2 B2
    go_wp2_with fail
    go_ret2
    first
    | exact ⟨_, rfl, R3.out, B3.out⟩
    | exact ⟨_, rfl, SS.nil _, B3.out⟩
/-- are two lists of steps the same? -/
def samePr (a b : HO) : Bool := sameS a.1 b.1 a.2 b.2
def sameL (l m : List HO) : Bool := decide (l.length = m.length) && (l.zip m).all fun p => samePr p.1 p.2
theorem sameL_self (l : List HO) : sameL l l = true := by
  unfold sameL
  rw [decide_eq_true rfl, Bool.true_and, List.all_eq_true]
  intro p hp
  have : p.1 = p.2 := by
    rw [List.zip_eq_zipWith, List.mem_iff_getElem] at hp
    obtain ⟨i, hi, e⟩ := hp
    rw [List.getElem_zipWith] at e
    rw [← e]
  unfold samePr
  rw [this]
  exact sameS_self _ _
theorem sameL_len {l m : List HO} (h : l.length ≠ m.length) : sameL l m = false := by
  unfold sameL
  rw [decide_eq_false h, Bool.false_and]
theorem sameL_all {l m : List HO} (h : l.length = m.length) (k : ∀ (i : Nat) (h1 : i < l.length) (h2 : i < m.length), samePr l[i] m[i] = true) : sameL l m = true := by
  unfold sameL
  rw [decide_eq_true h, Bool.true_and, List.all_eq_true]
  intro p hp
  rw [List.mem_iff_getElem] at hp
  obtain ⟨i, hi, e⟩ := hp
  rw [List.length_zip] at hi
  rw [List.getElem_zip] at e
  rw [← e]
  exact k i (by omega) (by omega)
theorem sameL_not {l m : List HO} {i : Nat} (h1 : i < l.length) (h2 : i < m.length) (h : samePr l[i] m[i] = false) : sameL l m = false := by
  unfold sameL
  rw [Bool.and_eq_false_iff]
  refine .inr (Bool.not_eq_true _ ▸ fun hall => ?_)
  rw [List.all_eq_true] at hall
  have := hall (l[i], m[i]) (List.mem_iff_getElem.2 ⟨i, by rw [List.length_zip]; omega, by rw [List.getElem_zip]⟩)
  simp only at this
  rw [h] at this
  cases this
end Go.Proofs.Ytcaocnlchfbeaaa.Pf
