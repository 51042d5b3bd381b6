/- The walk of infix.Encode. -/
import Derived.Test.YtcaocnlchfbeaaaIf
import Derived.Test.YtcaocnlchfbeaaaPfE
namespace Go.Proofs.Ytcaocnlchfbeaaa.If
open Go.RowKit Go.Proofs.Ytcaocnlchfbeaaa.Mk Go.Proofs.Ytcaocnlchfbeaaa.Op Go.Proofs.Ytcaocnlchfbeaaa.Hd Go.Proofs.Ytcaocnlchfbeaaa.St Go.Proofs.Ytcaocnlchfbeaaa.Cur Go.Proofs.Ytcaocnlchfbeaaa.Stp Go.Proofs.Ytcaocnlchfbeaaa.Tk Go.Proofs.Ytcaocnlchfbeaaa.Pf
open Go.Proofs.Ytcaocnlchfbeaaa.Buf (QB QW qv cat raw_new bnum_calls btext_calls new_calls bytes_calls cat_one cells_one)
/-- a Buf that was made at w1, and what it holds -/
def QQ (w1 : World) (L : List UInt8) (w : World) : Prop := ∃ r, QB w1.heap.size (some w1.heap.size) r L w ∧ Below w1.heap.size w1 w
theorem QQ.below {w1 w w' : World} {L : List UInt8} (h : QQ w1 L w) (hb : Below w.heap.size w w') : QQ w1 L w' := by
  obtain ⟨r, h1, h2⟩ := h
  exact ⟨r, h1.keepB hb, below_up h2 hb⟩
theorem QQ.bel {w1 w : World} {L : List UInt8} (h : QQ w1 L w) : Below w1.heap.size w1 w := h.choose_spec.2
theorem new_q (w : World) : Calls Try.prog 41 #[] w fun e w' => e = .returned (qv (some w.heap.size)) ∧ QQ w [] w' :=
  (new_calls w).mono fun _ _ ⟨h1, h2, h3⟩ => ⟨h1, none, h2, h3⟩
theorem num_q {w1 w : World} {L : List UInt8} (h : QQ w1 L w) (x : Nat) (hx : x < 18446744073709551616) (hl : L.length + 10 ≤ 140737488355328) :
    Calls Try.prog 82 #[qv (some w1.heap.size), .int .u64 x] w fun e w' => e = .returned (.tuple #[]) ∧ QQ w1 (L ++ Num.putL x) w' := by
  obtain ⟨r, h1, h2⟩ := h
  exact (bnum_calls _ _ r L x w h1 hx hl).mono fun _ _ ⟨e1, r2, e2, e3⟩ => ⟨e1, r2, e2, h2.trans (e3.below h1)⟩
theorem text_q {w1 w : World} {L : List UInt8} (h : QQ w1 L w) (s : ByteArray) (hl : L.length + 10 + s.size ≤ 140737488355328) :
    Calls Try.prog 84 #[qv (some w1.heap.size), .string s] w fun e w' => e = .returned (.tuple #[]) ∧ QQ w1 (L ++ (Num.putL s.size ++ bs s)) w' := by
  obtain ⟨r, h1, h2⟩ := h
  exact (btext_calls _ _ r L s w h1 hl).mono fun _ _ ⟨e1, r2, e2, e3⟩ => ⟨e1, r2, e2, h2.trans (e3.below h1)⟩
theorem raw_q {w1 w : World} {L : List UInt8} (h : QQ w1 L w) (s : ByteArray) (hl : L.length + s.size ≤ 140737488355328) :
    Calls Try.prog 42 #[qv (some w1.heap.size), .slice (some ⟨w.heap.size, 0, none⟩) 1 1] (w.alloc (.cells #[.string s] 9)) fun e w' => e = .returned (.tuple #[]) ∧ QQ w1 (L ++ bs s) w' := by
  obtain ⟨r, h1, h2⟩ := h
  have := raw_new _ _ r L [s] w (w.alloc (.cells #[.string s] 9)) w.heap.size 1 9 h1 ((Below.refl _ _).alloc (Nat.le_refl _) _) (by rw [cells_one]; exact heap_new _ _) (Nat.le_refl _) rfl (by simp) (by rw [cat_one, bs_len]; exact hl)
  rw [cat_one] at this
  exact this.mono fun _ _ ⟨e1, r2, e2, e3⟩ => ⟨e1, r2, e2, h2.trans (e3.below h1)⟩
theorem put_q {w1 w : World} {L : List UInt8} (h : QQ w1 L w) (v : Value) (l : List HO) (hs : SS w v l) (ok : ∀ t ∈ l, OOk t.2) (hl : L.length ≤ 1073741824) :
    Calls Try.prog 43 #[qv (some w1.heap.size), v] w fun e w' => e = .returned (.int .i64 (encP l).2) ∧ QQ w1 (L ++ (encP l).1) w' := by
  obtain ⟨r, h1, h2⟩ := h
  exact (put_calls _ _ r L v l w h1 hs ok hl).mono fun _ _ ⟨e1, r2, e2, e3⟩ => ⟨e1, r2, e2, h2.trans (e3.below h1)⟩
theorem bytes_q {w1 w : World} {L : List UInt8} (h : QQ w1 L w) :
    Calls Try.prog 44 #[qv (some w1.heap.size)] w fun e w' => e = .returned (.string (ba L)) ∧ QQ w1 L w' := by
  obtain ⟨r, h1, h2⟩ := h
  exact (bytes_calls _ _ r L w h1).mono fun _ _ ⟨e1, e2, e3⟩ => ⟨e1.trans (by rw [if_neg (by simp)]), r, e2, h2.trans (e3.below h1)⟩
/-- the block of an infix -/
def iB (x : Inf) (v sv su : Value) : Obj := .cells (ifc x v sv su) 76 (0, 0)
theorem iB_cell {w : World} {g : Nat} {x : Inf} {v sv su : Value} (h : w.heap[g]? = some (iB x v sv su)) (j : Nat) : w.cell? ⟨g, j, none⟩ = (ifc x v sv su)[j]? := cell_of_row _ _ _ _ _ _ h
theorem UInf : Try.prog.underlying 76 = some (.struct (Try.prog.fieldsOf 76)) := by kernel_rfl
theorem IInf (x : Inf) (v sv su : Value) : (Try.prog.info? 76).map (·.size) = some (ifc x v sv su).size := by show _ = some 10; kernel_rfl
theorem ldI {w : World} {g : Nat} {x : Inf} {v sv su : Value} (h : w.heap[g]? = some (iB x v sv su)) : (Instr.loadAt 76 (.pointer (some ⟨g, 0, none⟩))).run Try.prog w = .ok (.agg (ifc x v sv su)) w := by
  have := run_loadVar_row (P := Try.prog) w g _ 76 _ _ _ h UInf rfl (IInf x v sv su)
  simp only [Instr.loadAt, Instr.sureAddr, Sem.run_bind, Sem.run_pure, Result.andThen_ok, this]
theorem ldIO {w : World} {g : Nat} {x : Inf} {v sv su : Value} (h : w.heap[g]? = some (iB x v sv su)) : (Instr.loadAt 41 (.pointer (some ⟨g, 2, none⟩))).run Try.prog w = .ok (.agg (oc x.o.i x.o.c sv)) w := by
  refine run_loadAt_mid w g 2 _ (oc x.o.i x.o.c sv).toList _ (fun j u hj => ?_) UOpn rfl (IOpn _ _ _)
  rw [iB_cell h]
  match j, hj with
  | 0, hj => exact hj
  | 1, hj => exact hj
  | 2, hj => exact hj
theorem ldIU {w : World} {g : Nat} {x : Inf} {v sv su : Value} (h : w.heap[g]? = some (iB x v sv su)) : (Instr.loadAt 41 (.pointer (some ⟨g, 7, none⟩))).run Try.prog w = .ok (.agg (oc x.u.i x.u.c su)) w := by
  refine run_loadAt_mid w g 7 _ (oc x.u.i x.u.c su).toList _ (fun j u hj => ?_) UOpn rfl (IOpn _ _ _)
  rw [iB_cell h]
  match j, hj with
  | 0, hj => exact hj
  | 1, hj => exact hj
  | 2, hj => exact hj
theorem enc_may {x : Inf} (h : mayF x ≠ 0) : encF x = ([], mayF x) := if_pos h
theorem enc_put {x : Inf} (h : mayF x = 0) (h1 : (encP x.l).2 ≠ 0) : encF x = ([], (encP x.l).2) := by unfold encF; rw [if_neg (by simpa using h), if_pos h1]
theorem enc_o {x : Inf} (h : mayF x = 0) (h1 : (encP x.l).2 = 0) (h2 : (openB x.o).2 ≠ 0) : encF x = ([], (openB x.o).2) := by unfold encF; rw [if_neg (by simpa using h), if_neg (by simpa using h1), if_pos h2]
theorem enc_u {x : Inf} (h : mayF x = 0) (h1 : (encP x.l).2 = 0) (h2 : (openB x.o).2 = 0) (h3 : (openB x.u).2 ≠ 0) : encF x = ([], (openB x.u).2) := by unfold encF; rw [if_neg (by simpa using h), if_neg (by simpa using h1), if_neg (by simpa using h2), if_pos h3]
theorem enc_all {x : Inf} (h : mayF x = 0) (h1 : (encP x.l).2 = 0) (h2 : (openB x.o).2 = 0) (h3 : (openB x.u).2 = 0) : encF x = (Num.putL x.a.toNat ++ (encP x.l).1 ++ (openB x.o).1 ++ Num.putL x.b.toNat ++ (Num.putL x.s.size ++ bs x.s) ++ (openB x.u).1, 0) := by unfold encF; rw [if_neg (by simpa using h), if_neg (by simpa using h1), if_neg (by simpa using h2), if_neg (by simpa using h3)]
set_option maxHeartbeats 8000000 in
set_option maxRecDepth 100000 in
theorem encode_calls (val : Value) (x : Inf) (w : World) (h : IV w val x) (ok : IOk x) :
    Calls Try.prog 48 #[val] w fun e w' => e = .returned (.tuple #[.string (ba (encF x).1), .int .i64 (encF x).2]) ∧ Below w.heap.size w w' := by
  obtain ⟨v, sv, su, rfl, hs, ho, hu⟩ := h
  obtain ⟨A, c, rfl, hbd, _⟩ := hs.at_
  have hb0 : Below w.heap.size w (w.alloc (iB x (.slice A x.l.length c) sv su)) := (Below.refl _ _).alloc (Nat.le_refl _) _
  have hg0 : (w.alloc (iB x (.slice A x.l.length c) sv su)).heap[w.heap.size]? = some (iB x (.slice A x.l.length c) sv su) := heap_new _ _
  have HM := Lib.hid (may_calls (.agg (ifc x (.slice A x.l.length c) sv su)) x (w.alloc (iB x (.slice A x.l.length c) sv su)) ⟨_, sv, su, rfl, hs.below hb0, ho.below hb0, hu.below hb0⟩)
  have LD := Lib.hid (ldI hg0)
  obtain ⟨g, hg⟩ : ∃ g, g = w.heap.size := ⟨_, rfl⟩
  have HK := Lib.hid (show ∀ wx, Below (w.alloc (iB x (.slice A x.l.length c) sv su)).heap.size (w.alloc (iB x (.slice A x.l.length c) sv su)) wx → wx.heap[g]? = some (iB x (.slice A x.l.length c) sv su) ∧ SS wx (.slice A x.l.length c) x.l ∧ SL hc 32 wx sv x.o.p ∧ SL hc 32 wx su x.u.p ∧ Below w.heap.size w wx from fun wx hx => by
    rw [hg]
    exact ⟨(hx.block _ (by simp)).trans hg0, (hs.below hb0).below hx, (ho.below hb0).below hx, (hu.below hb0).below hx, below_up hb0 hx⟩)
  clear hs ho hu hb0 hg0
  unfold iB at HM LD HK
  go_enter Try.func48, Try.ntmps48
  go_wp2_with (refine wpList_loadg (by rfl) 76 (.tmp 1) (by rfl) _ (by rfl) _ LD.out ?_)
  refine HM.out.mono ?_
  rintro e w1 ⟨rfl, hb1⟩
  have B1 := Lib.hid hb1
  clear hb1 LD HM
  rw [← hg]
  clear hg
  generalize World.alloc w _ = W0 at *
  by_cases hm : mayF x = 0
  · have hmk := may_ok hm
    have HM := Lib.hid hm
    have OK := Lib.hid ok
    have HX := Lib.hid (show ∀ L wx, QQ w1 L wx → wx.heap[g]? = some (iB x (.slice A x.l.length c) sv su) ∧ SS wx (.slice A x.l.length c) x.l ∧ SL hc 32 wx sv x.o.p ∧ SL hc 32 wx su x.u.p ∧ Below w.heap.size w wx from fun L wx q => HK.out wx (below_up B1.out q.bel))
    have hel : (encP x.l).1.length ≤ 3000000 := encP_le x.l ok.l
    have hol := openB_len x.o ok.o
    have hul := openB_len x.u ok.u
    clear HK B1 ok
    rw [hm]
    clear hm
    obtain ⟨a, l, o, b, s, u⟩ := x
    dsimp only at *
    obtain ⟨na, rfl⟩ := Int.eq_ofNat_of_zero_le hmk.1
    obtain ⟨nb, rfl⟩ := Int.eq_ofNat_of_zero_le hmk.2.2.1
    have hna : na < 18446744073709551616 := by omega
    have hnb : nb < 18446744073709551616 := by omega
    have hss : s.size ≤ 4096 := hmk.2.2.2.2.2
    have ha1 : na ≤ 1024 := by omega
    have hb1 : nb ≤ 1024 := by omega
    have hpa := Num.putL_len10 na hna
    have hpb := Num.putL_len10 nb hnb
    have hps := Num.putL_len10 s.size (by omega)
    clear hmk
    go_wp2_with fail
    refine (new_q _).mono ?_
    rintro e w2 ⟨rfl, q2⟩
    obtain ⟨k1, -, -, -, -⟩ := HX.out _ _ q2
    have c0 : w2.cell? ⟨g, 0, none⟩ = some (.int .i64 (na : Int)) := (iB_cell k1 0).trans rfl
    have P2 := Lib.hid (num_q q2 na hna (by simp))
    clear k1 q2
    go_wp2_with fail
    refine P2.out.mono ?_
    rintro e w3 ⟨rfl, q3⟩
    rw [List.nil_append] at q3
    obtain ⟨k1, k2, -, -, -⟩ := HX.out _ _ q3
    have c1 : w3.cell? ⟨g, 1, none⟩ = some (.slice A l.length c) := (iB_cell k1 1).trans rfl
    have P3 := Lib.hid (put_q q3 _ l k2 (fun t ht => (OK.out.l t ht).2) (by omega))
    clear k1 k2 q3 c0 P2
    go_wp2_with fail
    refine P3.out.mono ?_
    rintro e w4 ⟨rfl, q4⟩
    clear c1 P3
    obtain ⟨k1, -, k3, -, k5⟩ := HX.out _ _ q4
    by_cases h1 : (encP l).2 = 0
    · have t1 : ((encP l).2 != 0) = false := by rw [h1]; rfl
      have H1 := Lib.hid h1
      have LO := Lib.hid (ldIO k1)
      have P4 := Lib.hid (opening_calls o _ w4 ⟨sv, rfl, k3⟩ OK.out.o)
      have Q4 := Lib.hid q4
      clear k1 k3 k5 q4 h1
      go_wp2_with (refine wpList_loadg (by rfl) 41 (.tmp 29) (by rfl) _ (by rfl) _ LO.out ?_)
      refine P4.out.mono ?_
      rintro e w5 ⟨rfl, hb5⟩
      have q5 := Q4.out.below hb5
      obtain ⟨k1, -, -, k4, k5⟩ := HX.out _ _ q5
      clear hb5 P4 LO Q4
      by_cases h2 : (openB o).2 = 0
      · have t2 : ((openB o).2 != 0) = false := by rw [h2]; rfl
        have H2 := Lib.hid h2
        have LU := Lib.hid (ldIU k1)
        have P5 := Lib.hid (opening_calls u _ w5 ⟨su, rfl, k4⟩ OK.out.u)
        have Q5 := Lib.hid q5
        clear k1 k4 k5 q5 h2
        go_wp2_with (refine wpList_loadg (by rfl) 41 (.tmp 38) (by rfl) _ (by rfl) _ LU.out ?_)
        refine P5.out.mono ?_
        rintro e w6 ⟨rfl, hb6⟩
        have q6 := Q5.out.below hb6
        obtain ⟨k1, -, -, -, k5⟩ := HX.out _ _ q6
        clear hb6 P5 LU Q5
        by_cases h3 : (openB u).2 = 0
        · have t3 : ((openB u).2 != 0) = false := by rw [h3]; rfl
          have HE := Lib.hid (enc_all HM.out H1.out H2.out h3)
          dsimp only [Int.toNat_natCast] at HE
          have P6 := Lib.hid (raw_q q6 (ba (openB o).1) (by rw [ba_size]; simp only [List.length_append]; omega))
          rw [bs_ba] at P6
          clear k1 k5 q6 h3 HM H1 H2
          go_wp2_with fail
          refine P6.out.mono ?_
          rintro e w7 ⟨rfl, q7⟩
          obtain ⟨k1, -, -, -, -⟩ := HX.out _ _ q7
          have c5 : w7.cell? ⟨g, 5, none⟩ = some (.int .i64 (nb : Int)) := (iB_cell k1 5).trans rfl
          have P7 := Lib.hid (num_q q7 nb hnb (by simp only [List.length_append]; omega))
          clear k1 q7 P6
          go_wp2_with fail
          refine P7.out.mono ?_
          rintro e w8 ⟨rfl, q8⟩
          obtain ⟨k1, -, -, -, -⟩ := HX.out _ _ q8
          have c6 : w8.cell? ⟨g, 6, none⟩ = some (.string s) := (iB_cell k1 6).trans rfl
          have P8 := Lib.hid (text_q q8 s (by simp only [List.length_append]; omega))
          clear k1 q8 P7 c5
          go_wp2_with fail
          refine P8.out.mono ?_
          rintro e w9 ⟨rfl, q9⟩
          have P9 := Lib.hid (raw_q q9 (ba (openB u).1) (by rw [ba_size]; simp only [List.length_append, bs_len]; omega))
          rw [bs_ba] at P9
          clear q9 P8 c6
          go_wp2_with fail
          refine P9.out.mono ?_
          rintro e w10 ⟨rfl, q10⟩
          have P10 := Lib.hid (bytes_q q10)
          clear q10 P9
          go_wp2_with fail
          refine P10.out.mono ?_
          rintro e w11 ⟨rfl, q11⟩
          have B11 := Lib.hid (HX.out _ _ q11).2.2.2.2
          clear q11 P10
          go_wp2_with fail
          go_ret2
          exact ⟨ret_se (by rw [HE.out]; simp only [List.append_assoc]) (by rw [HE.out]), B11.out⟩
        · have t3 : ((openB u).2 != 0) = true := by simpa using h3
          have HE := Lib.hid (enc_u HM.out H1.out H2.out h3)
          have B6 := Lib.hid k5
          clear k1 k5 q6 h3
          go_wp2_with fail
          go_ret2
          exact ⟨ret_se (by rw [HE.out]; rfl) (by rw [HE.out]), B6.out⟩
      · have t2 : ((openB o).2 != 0) = true := by simpa using h2
        have HE := Lib.hid (enc_o HM.out H1.out h2)
        have B5 := Lib.hid k5
        clear k1 k4 k5 q5 h2
        go_wp2_with fail
        go_ret2
        exact ⟨ret_se (by rw [HE.out]; rfl) (by rw [HE.out]), B5.out⟩
    · have t1 : ((encP l).2 != 0) = true := by simpa using h1
      have HE := Lib.hid (enc_put HM.out h1)
      have B4 := Lib.hid k5
      clear k1 k3 k5 q4 h1
      go_wp2_with fail
      go_ret2
      exact ⟨ret_se (by rw [HE.out]; rfl) (by rw [HE.out]), B4.out⟩
  · have HE := Lib.hid (enc_may hm)
    have t1 : (mayF x != 0) = true := by simpa using hm
    have B2 := Lib.hid (HK.out w1 B1.out).2.2.2.2
    clear HK B1 hm
    go_wp2_with fail
    go_ret2
    exact ⟨ret_se (by rw [HE.out]; rfl) (by rw [HE.out]), B2.out⟩
end Go.Proofs.Ytcaocnlchfbeaaa.If
