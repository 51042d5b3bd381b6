/- The walk of infix.Decode. -/
import Derived.Test.YtcaocnlchfbeaaaIfDP
namespace Go.Proofs.Ytcaocnlchfbeaaa.If
open Go.RowKit Go.Proofs.Ytcaocnlchfbeaaa.Mk Go.Proofs.Ytcaocnlchfbeaaa.Op Go.Proofs.Ytcaocnlchfbeaaa.Hd Go.Proofs.Ytcaocnlchfbeaaa.St Go.Proofs.Ytcaocnlchfbeaaa.Cur Go.Proofs.Ytcaocnlchfbeaaa.Stp Go.Proofs.Ytcaocnlchfbeaaa.Tk Go.Proofs.Ytcaocnlchfbeaaa.Pf
theorem bld_n {o : Oper} {a : Act} {w : World} {x : Operand} {n : Nat} (ho : o.op = .build 76 #[(0, x)]) (hx : a.eval x = .int .i64 n) : (execOp a.eval o).run Try.prog w = .ok (.value (.agg (ifc ⟨n, [], op0, 0, .empty, op0⟩ nl nl nl))) w := by
  have h := built_n n w
  unfold execOp
  simp only [ho, List.map_toArray, List.map_cons, List.map_nil, hx, Sem.run_bind, h, Result.andThen_ok, Sem.run_pure]
theorem bld_0 {o : Oper} {a : Act} {w : World} (ho : o.op = .build 76 #[]) : (execOp a.eval o).run Try.prog w = .ok (.value (.agg (ifc inf0 nl nl nl))) w := by
  have h := built_0 w
  unfold execOp
  simp only [ho, List.map_toArray, List.map_nil, Sem.run_bind, h, Result.andThen_ok, Sem.run_pure]
theorem dec_e (b : List UInt8) : (decF b).2 = doneC (d6 b).2 := by
  unfold decF
  split
  · rfl
  · rename_i h
    exact (Decidable.byContradiction h : doneC (d6 b).2 = 0).symm
theorem dec_x (b : List UInt8) : (decF b).1 = if doneC (d6 b).2 ≠ 0 then inf0 else infD b := by
  unfold decF
  split <;> rfl
theorem text_len (c : C) (n : Int) : (textC c n).2.b.length ≤ c.b.length := by
  unfold textC
  exact Nat.le_trans (raw_len _ _).1 (num_len _ _)
theorem d5_len (b : List UInt8) : (d5 b).2.b.length ≤ b.length := Nat.le_trans (text_len _ _) (d4_len b)
theorem d6_len (b : List UInt8) : (d6 b).2.b.length ≤ b.length := Nat.le_trans (open_len _) (d5_len b)
theorem d4_le (b : List UInt8) : (d4 b).1 ≤ 1024 := num_le (d3 b).2 1024
theorem ds_new {w W : World} {b n : Nat} {c : C} (hu : CU b c W) (hr : W.heap[w.heap.size]? = some (iB inf0 nl nl nl)) (hb : Below w.heap.size w W) (h1 : w.heap.size < b) :
    DS w b W.heap.size c ⟨n, [], op0, 0, .empty, op0⟩ nl nl nl (W.alloc (iB ⟨n, [], op0, 0, .empty, op0⟩ nl nl nl)) := by
  have hB : Below W.heap.size W (W.alloc (iB ⟨n, [], op0, 0, .empty, op0⟩ nl nl nl)) := (Below.refl _ _).alloc (Nat.le_refl _) _
  have hlt : w.heap.size < W.heap.size := (Array.getElem?_eq_some_iff.1 hr).1
  exact ⟨hu.keep hB, (hB.block _ hlt).trans hr, heap_new _ _, ⟨[], ⟨World.ownsRow_nil _ _ _ _, fun t ht => (by cases ht)⟩, rfl, by decide⟩, ovn0 _ _, ovn0 _ _, below_up hb hB, h1, CU.lt hu⟩
/-- what a call on the cursor at any b shows -/
def On (f : FuncId) (xs : Array Value) (c c' : C) (P : World → Value → World → Prop) : Prop := ∀ b W, CU b c W → Calls Try.prog f (#[.pointer (some ⟨b, 0, none⟩)] ++ xs) W fun r w' => ∃ v, r = .returned v ∧ P W v w' ∧ CU b c' w' ∧ CW b W w'
set_option maxHeartbeats 8000000 in
set_option maxRecDepth 100000 in
theorem decode_gen (s : ByteArray) (w : World) {n1 n4 : Nat} {c0 k1 k2 k3 k4 k5 k6 : C} {l2 : List HO} {o3 o6 : Opn} {t5 : ByteArray} {e : Int} (h0 : c0 = ⟨bs s, 0⟩)
    (N1 : Hid (∀ b W, CU b c0 W → Calls Try.prog 66 #[.pointer (some ⟨b, 0, none⟩), .int .u64 1024] W fun r w' => r = .returned (.int .u64 (n1 : Nat)) ∧ CU b k1 w' ∧ CW b W w'))
    (N2 : Hid (∀ b W, CU b k1 W → Calls Try.prog 36 #[.pointer (some ⟨b, 0, none⟩)] W fun r w' => ∃ v ts, r = .returned v ∧ RW W.heap.size w' v ts ∧ ts.map Tr.ho = l2 ∧ ts.length ≤ 1024 ∧ CU b k2 w' ∧ CW b W w'))
    (N3 : Hid (∀ b W, CU b k2 W → Calls Try.prog 26 #[.pointer (some ⟨b, 0, none⟩)] W fun r w' => ∃ v, r = .returned v ∧ OVn W.heap.size w' v o3 ∧ CU b k3 w' ∧ CW b W w'))
    (N4 : Hid (∀ b W, CU b k3 W → Calls Try.prog 66 #[.pointer (some ⟨b, 0, none⟩), .int .u64 1024] W fun r w' => r = .returned (.int .u64 (n4 : Nat)) ∧ CU b k4 w' ∧ CW b W w'))
    (N5 : Hid (∀ b W, CU b k4 W → Calls Try.prog 86 #[.pointer (some ⟨b, 0, none⟩), .int .i64 4096] W fun r w' => r = .returned (.string t5) ∧ CU b k5 w' ∧ CW b W w'))
    (N6 : Hid (∀ b W, CU b k5 W → Calls Try.prog 26 #[.pointer (some ⟨b, 0, none⟩)] W fun r w' => ∃ v, r = .returned v ∧ OVn W.heap.size w' v o6 ∧ CU b k6 w' ∧ CW b W w'))
    (N7 : Hid (∀ b W, CU b k6 W → Calls Try.prog 72 #[.pointer (some ⟨b, 0, none⟩)] W fun r w' => r = .returned (.int .i64 e) ∧ w' = W))
    (HN : Hid (n1 ≤ 1024 ∧ n4 ≤ 1024)) :
    Calls Try.prog 54 #[.string s] w fun r w' => ∃ v, r = .returned (.tuple #[v, .int .i64 e]) ∧ IV w' v (if e ≠ 0 then inf0 else ⟨n1, l2, o3, n4, t5, o6⟩) ∧ Below w.heap.size w w' := by
  have H0 := Lib.hid h0
  clear h0
  go_enter Try.func54, Try.ntmps54
  go_wp2_with fail
  generalize hW : World.alloc w _ = W0
  have hr0 : W0.heap[w.heap.size]? = some (iB inf0 nl nl nl) := by rw [← hW]; exact heap_new w _
  have hb0 : Below w.heap.size w W0 := by rw [← hW]; exact (Below.refl _ _).alloc (Nat.le_refl _) _
  have hsz : W0.heap.size = w.heap.size + 1 := by rw [← hW]; simp
  clear hW
  refine (read_calls _ _).mono ?_
  rintro r w1 ⟨rfl, hu1, hb1⟩
  obtain ⟨b, hb⟩ : ∃ b, b = W0.heap.size := ⟨_, rfl⟩
  rw [← hb] at hu1
  have P1 := Lib.hid (N1.out b w1 (by rw [H0.out]; exact hu1))
  have D1 := Lib.hid (show w1.heap[w.heap.size]? = some (iB inf0 nl nl nl) ∧ Below w.heap.size w w1 ∧ w.heap.size < b from ⟨(hb1.block _ (by omega)).trans hr0, below_up hb0 hb1, by omega⟩)
  rw [← hb]
  clear hr0 hb0 hsz hb hu1 hb1 N1 H0
  go_wp2_with fail
  refine P1.out.mono ?_
  rintro r w2 ⟨rfl, hu2, hc2⟩
  have D2 := Lib.hid (ds_new (n := n1) hu2 ((hc2.block _ (Array.getElem?_eq_some_iff.1 D1.out.1).1 (by have := D1.out.2.2; omega)).trans D1.out.1) (D1.out.2.1.trans (hc2.below D1.out.2.1.size (Nat.le_of_lt D1.out.2.2))) D1.out.2.2)
  clear hu2 hc2 P1 D1
  have hn1 := HN.out.1
  go_wp2_with (first | (refine wpList_value (by rfl) _ (bld_n (n := n1) (by rfl) (by rfl)) ?_) | (refine wpList_store_last rfl 76 _ _ rfl _ (ifc ⟨n1, [], op0, 0, .empty, op0⟩ nl nl nl) rfl rfl (IInf _ _ _ _) rfl (one_if _ _ _ _ _ _ _ _ _ _) ?_))
  clear hn1
  obtain ⟨g, hg⟩ : ∃ g, g = w2.heap.size := ⟨_, rfl⟩
  rw [← hg] at D2
  rw [← hg]
  clear hg
  generalize hW : World.alloc w2 _ = W3
  have D3 := Lib.hid (show DS w b g k1 ⟨n1, [], op0, 0, .empty, op0⟩ nl nl nl W3 from by rw [← hW]; exact D2.out)
  clear hW D2
  refine (N2.out b W3 D3.out.cu).mono ?_
  rintro r w4 ⟨v2, ts, rfl, hr2, hl2, hn2, hu4, hc4⟩
  obtain ⟨W4, s4, d4⟩ := (D3.out.cw hu4 hc4).put_l (rw_mono hr2 D3.out.lt) hn2
  rw [hl2] at d4
  have S4 := Lib.hid s4
  have D4 := Lib.hid d4
  clear hr2 hl2 hn2 hu4 hc4 s4 d4 D3 N2
  go_wp2_with (refine wpList_st (by rfl) (.tmp 15) (.tmp 14) (by rfl) _ (by rfl) _ (by rfl) S4.out ?_)
  refine (N3.out b W4 D4.out.cu).mono ?_
  rintro r w5 ⟨v3, rfl, ho3, hu5, hc5⟩
  obtain ⟨q3, W5, s5, d5⟩ := (D4.out.cw hu5 hc5).put_o (ovn_mono ho3 D4.out.lt)
  have S5 := Lib.hid s5
  have D5 := Lib.hid d5
  clear ho3 hu5 hc5 s5 d5 D4 N3 S4
  go_wp2_with (refine wpList_st (by rfl) (.tmp 18) (.tmp 17) (by rfl) _ (by rfl) _ (by rfl) S5.out ?_)
  refine (N4.out b W5 D5.out.cu).mono ?_
  rintro r w6 ⟨rfl, hu6, hc6⟩
  obtain ⟨W6, s6, d6⟩ := (D5.out.cw hu6 hc6).put_i (n4 : Nat)
  have S6 := Lib.hid s6
  have D6 := Lib.hid d6
  clear hu6 hc6 s6 d6 D5 N4 S5
  have hn4 := HN.out.2
  go_wp2_with (refine wpList_st (by rfl) (.tmp 22) (.tmp 21) (by rfl) _ (by rfl) _ (by rfl) S6.out ?_)
  clear hn4
  refine (N5.out b W6 D6.out.cu).mono ?_
  rintro r w7 ⟨rfl, hu7, hc7⟩
  obtain ⟨W7, s7, d7⟩ := (D6.out.cw hu7 hc7).put_s t5
  have S7 := Lib.hid s7
  have D7 := Lib.hid d7
  clear hu7 hc7 s7 d7 D6 N5 S6
  go_wp2_with (refine wpList_st (by rfl) (.tmp 25) (.tmp 24) (by rfl) _ (by rfl) _ (by rfl) S7.out ?_)
  refine (N6.out b W7 D7.out.cu).mono ?_
  rintro r w8 ⟨v6, rfl, ho6, hu8, hc8⟩
  obtain ⟨q6, W8, s8, d8⟩ := (D7.out.cw hu8 hc8).put_u (ovn_mono ho6 D7.out.lt)
  have S8 := Lib.hid s8
  have D8 := Lib.hid d8
  clear ho6 hu8 hc8 s8 d8 D7 N6 S7
  go_wp2_with (refine wpList_st (by rfl) (.tmp 28) (.tmp 27) (by rfl) _ (by rfl) _ (by rfl) S8.out ?_)
  refine (N7.out b W8 D8.out.cu).mono ?_
  rintro r w9 ⟨rfl, rfl⟩
  clear N7 S8
  by_cases he : e = 0
  · subst he
    have L9 := Lib.hid (ldI D8.out.box)
    obtain ⟨W9, s9, a9, b9, c9⟩ := D8.out.put_res
    have S9 := Lib.hid s9
    have A9 := Lib.hid a9
    have B9 := Lib.hid (And.intro b9 c9)
    clear s9 a9 b9 c9
    go_wp2_with (first | (refine wpList_loadg (by rfl) 76 (.tmp 5) (by rfl) _ (by rfl) _ L9.out ?_) | (refine wpList_st (by rfl) (.tmp 2) (.tmp 35) (by rfl) _ (by rfl) _ (by rfl) S9.out ?_))
    exact bodyPost_ret (res_cell_tmp 2 3 76 ⟨w.heap.size, 0, none⟩ _ rfl rfl (lvI A9.out)) rfl ⟨_, rfl, B9.out⟩
  · have t1 : (e != 0) = true := by simpa using he
    have HE := Lib.hid he
    clear he
    obtain ⟨W9, s9, a9, b9, c9⟩ := D8.out.put_zero
    have S9 := Lib.hid s9
    have A9 := Lib.hid a9
    have B9 := Lib.hid (And.intro b9 c9)
    clear s9 a9 b9 c9
    go_wp2_with (first | (refine wpList_value (by rfl) _ (bld_0 (by rfl)) ?_) | (refine wpList_st (by rfl) (.tmp 2) (.tmp 33) (by rfl) _ (by rfl) _ (by rfl) S9.out ?_))
    exact bodyPost_ret (res_cell_tmp 2 3 76 ⟨w.heap.size, 0, none⟩ _ rfl rfl (lvI A9.out)) rfl ⟨_, rfl, B9.out⟩
theorem decode_calls (s : ByteArray) (w : World) (hs : s.size ≤ 9223372036854775807) :
    Calls Try.prog 54 #[.string s] w fun r w' => ∃ v, r = .returned (.tuple #[v, .int .i64 (decF (bs s)).2]) ∧ IV w' v (decF (bs s)).1 ∧ Below w.heap.size w w' := by
  have hl : (bs s).length ≤ 9223372036854775807 := by rw [bs_len]; exact hs
  have h := decode_gen s w (c0 := ⟨bs s, 0⟩) (e := doneC (d6 (bs s)).2) rfl
    (Lib.hid (fun b W (hW : CU b ⟨bs s, 0⟩ W) => Cur.num_calls b ⟨bs s, 0⟩ 1024 W hW hl))
    (Lib.hid (fun b W (hW : CU b (d1 (bs s)).2 W) => Pf.get_calls b (d1 (bs s)).2 W hW (Nat.le_trans (d1_len _) hl)))
    (Lib.hid (fun b W (hW : CU b (d2 (bs s)).2 W) => takeOpening_calls b (d2 (bs s)).2 W hW (Nat.le_trans (d2_len _) hl)))
    (Lib.hid (fun b W (hW : CU b (d3 (bs s)).2 W) => Cur.num_calls b (d3 (bs s)).2 1024 W hW (Nat.le_trans (d3_len _) hl)))
    (Lib.hid (fun b W (hW : CU b (d4 (bs s)).2 W) => Cur.text_calls b (d4 (bs s)).2 4096 W hW (Nat.le_trans (d4_len _) hl) (by decide) (by decide)))
    (Lib.hid (fun b W (hW : CU b (d5 (bs s)).2 W) => takeOpening_calls b (d5 (bs s)).2 W hW (Nat.le_trans (d5_len _) hl)))
    (Lib.hid (fun b W (hW : CU b (d6 (bs s)).2 W) => Cur.done_calls b (d6 (bs s)).2 W hW (Nat.le_trans (d6_len _) hl)))
    (Lib.hid ⟨d1_le _, d4_le _⟩)
  refine h.mono fun r w' ⟨v, e1, e2, e3⟩ => ⟨v, ?_, ?_, e3⟩
  · rw [e1, dec_e]
  · rw [dec_x]
    exact e2
end Go.Proofs.Ytcaocnlchfbeaaa.If
