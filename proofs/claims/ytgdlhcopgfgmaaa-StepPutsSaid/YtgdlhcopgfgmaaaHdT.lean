/- The walks of head.Take and of chapter 17's example. -/
import Derived.Test.YtgdlhcopgfgmaaaHdE
import Derived.Test.YtgdlhcopgfgmaaaStepG
namespace Go.Proofs.Ytgdlhcopgfgmaaa.Hd
open Go.RowKit Go.Proofs.Ytgdlhcopgfgmaaa.Mk Go.Proofs.Ytgdlhcopgfgmaaa.Wd Go.Proofs.Ytgdlhcopgfgmaaa.Cur
open Extern.Stop (cell)
/-- the header of bytes, and what is wrong with them -/
def takeH (l : List UInt8) : Hd × Int := if doneC (getC ⟨l, 0⟩).2 = 0 then ((getC ⟨l, 0⟩).1, 0) else (hd0, doneC (getC ⟨l, 0⟩).2)
theorem takeH_ok (l : List UInt8) : (takeH l).1.Ok := by
  unfold takeH
  split
  · exact getC_ok _
  · exact hd0_ok
theorem getC_len (c : C) : (getC c).2.b.length ≤ c.b.length := (raw_len c 76).1
theorem zero_arr : (.cells Try.zeroCells27 27 : Obj) = .cells hd0.c.toArray 27 := rfl
set_option maxHeartbeats 4000000 in
set_option maxRecDepth 100000 in
theorem htake_calls (s : ByteArray) (w : World) (hs : s.size ≤ 9223372036854775807) :
    Calls Try.prog 16 #[.string s] w fun r w' => r = .returned (.tuple #[(takeH (bs s)).1.v, .int .i64 (takeH (bs s)).2]) ∧ Below w.heap.size w w' := by
  have hok := getC_ok ⟨bs s, 0⟩
  have hlen := getC_len ⟨bs s, 0⟩
  simp only [bs_len] at hlen
  have HG := Lib.hid (fun W (hW : CU (w.heap.size + 1) ⟨bs s, 0⟩ W) => get_calls (w.heap.size + 1) ⟨bs s, 0⟩ W hW (by rw [bs_len]; exact hs))
  have ht : takeH (bs s) = if doneC (getC ⟨bs s, 0⟩).2 = 0 then ((getC ⟨bs s, 0⟩).1, 0) else (hd0, doneC (getC ⟨bs s, 0⟩).2) := rfl
  generalize getC ⟨bs s, 0⟩ = x at *
  obtain ⟨h, c⟩ := x
  simp only at hok hlen ht HG
  have Ht := Lib.hid ht
  have Hok := Lib.hid hok
  clear ht hok
  go_enter Try.func16, Try.ntmps16
  go_wp2_with fail
  refine (read_calls _ _).mono ?_
  rintro r w1 ⟨rfl, hu1, hb1⟩
  simp only [World.size_alloc] at hu1
  have Y0 : HB w.heap.size hd0 27 w1 := (hb1.block _ (by simp)).trans (heap_new _ _)
  have hb1' : Below w.heap.size w w1 := ((Below.refl _ _).alloc (Nat.le_refl _) _).trans (hb1.mono (by simp))
  have Hu1 := Lib.hid hu1
  have S1 := Lib.hid (And.intro Y0 (And.intro hb1' hu1.lt))
  clear hu1 Y0 hb1 hb1'
  go_wp2_with fail
  refine (HG.out _ Hu1.out).mono ?_
  rintro r w2 ⟨rfl, hu2, hw2⟩
  obtain ⟨Y0, hb1, hlt⟩ := S1.out
  have Y2 : HB w.heap.size hd0 27 w2 := (hw2.block _ (by omega) (by omega)).trans Y0
  have hb2 : Below w.heap.size w w2 := hb1.trans (hw2.below (by omega) (by omega))
  have hlt2 : w.heap.size + 1 < w2.heap.size := by have := hw2.size; omega
  have S2 := Lib.hid (And.intro Y2 (And.intro hb2 hlt2))
  have HU2 := Lib.hid (show CU (w.heap.size + 1) c (w2.alloc (.cells h.c.toArray 27)) from hu2.keep ((Below.refl _ _).alloc (Nat.le_refl _) _))
  clear hu2 hw2 Y2 hb2 hlt2 Y0 hb1 hlt S1 Hu1
  go_wp2_with (first | (refine wpList_store_last rfl 27 _ _ rfl _ h.c.toArray rfl rfl (IHd Hok.out) (zero_size Hok.out) (Hd.c_one _) ?_))
  refine (done_calls (w.heap.size + 1) c _ HU2.out (by omega)).mono ?_
  rintro r w3 ⟨rfl, rfl⟩
  obtain ⟨Y2, hb2, hlt2⟩ := S2.out
  have Z0 := Lib.hid (show HB w.heap.size hd0 27 (w2.alloc (.cells h.c.toArray 27)) from (Below.heap_alloc _ _ _ (by omega)).trans Y2)
  have Z1 := Lib.hid (show HB w2.heap.size h 27 (w2.alloc (.cells h.c.toArray 27)) from heap_new _ _)
  have HB3 := Lib.hid (show Below w.heap.size w (w2.alloc (.cells h.c.toArray 27)) from hb2.alloc (by omega) _)
  have sz : hd0.c.toArray.size = h.c.toArray.size := by rw [List.size_toArray, List.size_toArray, Hd.c_len _ hd0_ok, Hd.c_len _ Hok.out]
  have Sz := Lib.hid sz
  clear Y2 hb2 hlt2 S2 HU2 sz
  generalize doneC c = e at *
  by_cases h0 : e = 0
  · subst h0
    go_wp2_with (first | (refine wpList_load_Hd rfl (.tmp 5) rfl rfl Z1.out Hok.out ?_) | (refine wpList_store_row rfl 27 _ _ rfl w.heap.size h.c.toArray rfl rfl _ _ Z0.out (IHd Hok.out) Sz.out (Hd.c_one _) ?_))
    have Y7 : HB w.heap.size h 27 ((w2.alloc (.cells h.c.toArray 27)).setRow w.heap.size h.c.toArray) := setRow_heap _ _ _ _ _ _ Z0.out
    refine bodyPost_ret (res_cell_tmp 2 3 27 ⟨w.heap.size, 0, none⟩ _ rfl rfl (load_Hd Y7 Hok.out)) rfl ?_
    exact ⟨by rw [Ht.out]; rfl, setRow_below HB3.out (Nat.le_refl _)⟩
  · have t1 : (e != 0) = true := by simpa using h0
    have Ht2 := Lib.hid (Ht.out.trans (if_neg h0))
    go_wp2_with (first | (refine wpList_store_row rfl 27 _ _ rfl w.heap.size hd0.c.toArray rfl rfl _ _ Z0.out (IHd hd0_ok) rfl (Hd.c_one _) ?_))
    have Y7 : HB w.heap.size hd0 27 ((w2.alloc (.cells h.c.toArray 27)).setRow w.heap.size hd0.c.toArray) := setRow_heap _ _ _ _ _ _ Z0.out
    refine bodyPost_ret (res_cell_tmp 2 3 27 ⟨w.heap.size, 0, none⟩ _ rfl rfl (load_Hd Y7 hd0_ok)) rfl ?_
    exact ⟨by rw [Ht2.out]; rfl, setRow_below HB3.out (Nat.le_refl _)⟩
/-- the header of 76 bytes -/
theorem takeH_76 (l : List UInt8) (h : l.length = 76) : takeH l = (Hd.of l, 0) := by
  have e : rawC ⟨l, 0⟩ 76 = (l, ⟨[], 0⟩) := by
    have := raw_ok l 76 (by omega)
    rw [List.take_of_length_le (by omega), List.drop_of_length_le (by omega)] at this
    exact this
  unfold takeH getC
  rw [e]
  simp only
  rw [if_pos (by simp [doneC]), if_neg (by intro e2; rw [e2] at h; simp at h)]
theorem takeH_not (l : List UInt8) (h : l.length ≠ 76) : (takeH l).1 = hd0 ∧ (takeH l).2 ≠ 0 := by
  have hd : doneC (getC ⟨l, 0⟩).2 ≠ 0 := by
    unfold getC
    simp only
    by_cases h1 : 76 ≤ l.length
    · have := raw_ok l 76 h1
      rw [show ((76 : Nat) : Int) = 76 from rfl] at this
      rw [this]
      have h2 : l.drop 76 ≠ [] := by
        intro e
        have := congrArg List.length e
        simp at this
        omega
      simp [doneC, h2]
    · have := raw_short l 76 (by omega)
      rw [show ((76 : Nat) : Int) = 76 from rfl] at this
      rw [this]
      simp [doneC]
  unfold takeH
  rw [if_neg hd]
  exact ⟨rfl, hd⟩
end Go.Proofs.Ytgdlhcopgfgmaaa.Hd
