/- The walk of proof.Put. -/
import Derived.Test.YtcaocnlchfbeaaaPut
import Derived.Test.YtcaocnlchfbeaaaPeMath
import Derived.Test.YtcaocnlchfbeaaaBf
import Derived.Test.YtcaocnlchfbeaaaBi
import Derived.Test.YtcaocnlchfbeaaaBa
namespace Go.Proofs.Ytcaocnlchfbeaaa.Pf
open Go.RowKit Go.Proofs.Ytcaocnlchfbeaaa.Mk Go.Proofs.Ytcaocnlchfbeaaa.Op Go.Proofs.Ytcaocnlchfbeaaa.Hd Go.Proofs.Ytcaocnlchfbeaaa.St Go.Proofs.Ytcaocnlchfbeaaa.Cur Go.Proofs.Ytcaocnlchfbeaaa.Stp Go.Proofs.Ytcaocnlchfbeaaa.Tk
open Go.Proofs.Ytcaocnlchfbeaaa.Buf (QB QW qv cat raw_calls bnum_calls)
theorem IStr : (Try.prog.info? 9).map (fun i => (i.zero, i.size, i.bytes)) = some (some (.string .empty), 1, 16) := by kernel_rfl
theorem UStrs : Try.prog.underlying 58 = some (.slice 9) := by kernel_rfl
/-- the block of the result -/
def rB (e : Int) : Obj := .cells #[.int .i64 e] 24 (0, 0)
theorem rB_cell {w : World} {g : Nat} {e : Int} (h : w.heap[g]? = some (rB e)) : w.cell? ⟨g, 0, none⟩ = some (.int .i64 e) := by
  unfold rB at h
  rw [cell_of_row _ _ _ _ _ _ h]
  rfl
theorem rB_free {w : World} {g : Nat} {e : Int} (h : w.heap[g]? = some (rB e)) : w.frozen? ⟨g, 0, none⟩ = false := by
  unfold rB at h
  simp [World.frozen?, h]
theorem rB_set {w : World} {g : Nat} {e x : Int} (h : w.heap[g]? = some (rB e)) : (w.setCell ⟨g, 0, none⟩ (.int .i64 x)).heap[g]? = some (rB x) := by
  unfold rB at h ⊢
  simp [World.setCell, Array.getElem?_modify, h]
theorem rB_ld {w : World} {g : Nat} {e : Int} (h : w.heap[g]? = some (rB e)) : (loadVar 24 ⟨g, 0, none⟩).run Try.prog w = .ok (.int .i64 e) w := by
  have hc := rB_cell h
  clear h
  go_simp
theorem new_lt (w : World) (o : Obj) : w.heap.size < (w.alloc o).heap.size := by simp
/-- the door behind a throw -/
theorem door_bad {w wx : World} {e : Int} (h : Below (w.alloc (rB 0)).heap.size (w.alloc (rB 0)) wx) (X : Obj) : Below w.heap.size w ((wx.alloc X).setCell ⟨w.heap.size, 0, none⟩ (.int .i64 e)) ∧ ((wx.alloc X).setCell ⟨w.heap.size, 0, none⟩ (.int .i64 e)).heap[w.heap.size]? = some (rB e) := by
  have hs := h.size
  have h0 : wx.heap[w.heap.size]? = some (rB 0) := (h.block _ (by simp)).trans (heap_new w _)
  rw [World.size_alloc] at hs
  refine ⟨Below.setCell (Below.alloc (((Below.refl _ _).alloc (Nat.le_refl _) _).trans (h.mono (by simp))) (by omega) _) (Nat.le_refl _) _, rB_set ((Below.heap_alloc _ _ _ (by omega)).trans h0)⟩
theorem QB.keepC {B : Nat} {q r : Option Nat} {l : List UInt8} {w : World} {g : Nat} (h : QB B q r l w) (hq : q ≠ some g) (hr : r ≠ some g) (u : Value) : QB B q r l (w.setCell ⟨g, 0, none⟩ u) := by
  cases q with
  | none => exact ⟨h.1, Nat.le_trans h.2 (by simp [World.setCell])⟩
  | some b => exact Buf.BU.keep h (But.setCell (S := fun k => k = g) (But.refl _ _) (p := ⟨g, 0, none⟩) rfl u) (fun e => hq (by rw [e])) (fun k ek e => hr (by rw [ek, e]))
theorem QW.up {q r r' : Option Nat} {w w2 w3 : World} (h : QW q r r' w w2) (hb : Below w.heap.size w2 w3) : QW q r r' w w3 :=
  ⟨⟨hb.os.trans h.1.os, hb.tape.trans h.1.tape, hb.output.trans h.1.output, Nat.le_trans h.1.size hb.size, fun i hi hs => (hb.block i hi).trans (h.1.block i hi hs)⟩, h.2⟩
theorem flatS (ss : List ByteArray) : ss.flatMap Buf.encS = ss.map Value.string := by
  induction ss with
  | nil => rfl
  | cons a l ih => rw [List.flatMap_cons, ih]; rfl
set_option maxHeartbeats 8000000 in
set_option maxRecDepth 100000 in
theorem put_calls (B : Nat) (q r : Option Nat) (l0 : List UInt8) (v : Value) (l : List HO) (w : World) (h : QB B q r l0 w) (hs : SS w v l) (ok : ∀ t ∈ l, OOk t.2) (hlen : l0.length ≤ 1073741824) :
    Calls Try.prog 43 #[qv q, v] w fun e w' => e = .returned (.int .i64 (encP l).2) ∧ ∃ r', QB B q r' (l0 ++ (encP l).1) w' ∧ QW q r r' w w' := by
  have hmf : ∀ (fn : Fn) (first cap : Array Value) (w : World), (Instr.makeFunc fn first cap).run Try.prog w = .ok (.func fn first cap) w := fun _ _ _ _ => rfl
  obtain ⟨A, c, rfl, hbd, _⟩ := hs.at_
  have HS := Lib.hid hs
  have H := Lib.hid h
  have OK := Lib.hid ok
  clear hs h ok
  by_cases hm : 1024 < l.length
  · have t1 : decide ((1024 : Int) < (l.length : Int)) = true := decide_eq_true (by omega)
    have HE := Lib.hid (show encP l = ([], 4) from if_pos hm)
    have HB := Lib.hid ((must_bad 4 (by decide)))
    clear hm
    go_enter_defers Try.func43, Try.ntmps43
    go_wp2_with fail
    refine (HB.out _).mono ?_
    rintro e w1 ⟨rfl, rfl⟩
    go_wp2_with fail
    refine leaves_cons (f := 79) (args := #[.pointer (some ⟨w.heap.size, 0, none⟩)]) (by simp) (enters_of Try.func79 (by kernel_rfl) rfl _ _) ?_
    refine (deferred_caught ⟨w.heap.size, 0, none⟩ 4 0 [] _ (rB_cell (((Below.refl _ (w.alloc (rB 0))).block _ (new_lt w (rB 0))).trans (heap_new w (rB 0)))) (rB_free (((Below.refl _ (w.alloc (rB 0))).block _ (new_lt w (rB 0))).trans (heap_new w (rB 0))))).mono ?_
    rintro e u' w'' ⟨rfl, rfl, rfl⟩
    obtain ⟨d1, d2⟩ := door_bad (e := 4) (Below.refl _ (w.alloc (rB 0))) (.cells #[.int .i64 4] 138)
    show Leaves _ _ _ _ [] .returning _
    refine ⟨.int .i64 4, results_cell 4 24 ⟨w.heap.size, 0, none⟩ _ rfl rfl (rB_ld d2), ?_⟩
    rw [HE.out]
    exact ⟨rfl, r, by rw [List.append_nil]; exact H.out.keepB d1, QW.of_below d1⟩
  · have t1 : decide ((1024 : Int) < (l.length : Int)) = false := decide_eq_false (by omega)
    have i1 : l.length ≤ 1024 := by omega
    have HB := Lib.hid must_bad
    have HG := Lib.hid (must_ok)
    have HSt := Lib.hid step_calls
    have hm' : Hid (¬ 1024 < l.length) := Lib.hid hm
    clear hm
    obtain ⟨is, his, his0, his1, his2⟩ := info_parts IStr
    have b2 : is.bytes * l.length ≤ 281474976710656 := by rw [his2]; omega
    have b3 : l.length ≤ maxLen := by simp only [maxLen]; omega
    have AT := Lib.hid (fun wx (hx : Below w.heap.size w wx) => ((HS.out).below hx).at_)
    go_enter_defers Try.func43, Try.ntmps43
    go_wp2_with (refine wpList_make_own _ rfl _ _ 58 rfl (w.heap.size + 1) 9 is (.string .empty) 1 UStrs his his0 his1 .i64 .i64 (l.length : Int) l.length rfl rfl rfl b2 b3 (by simp) ?_)
    intro W hwo hgw
    have hW : Below (w.alloc (rB 0)).heap.size (w.alloc (rB 0)) W := (Below.refl _ _).grown hgw (Nat.le_refl _) (fun k hk => by cases hk)
    go_wp2_with fail
    go_loopw [5, 20] (fun s5 s20 wr => ∃ (k : Nat) (ss : List ByteArray), s20 = .int .i64 (k : Int) ∧ k ≤ l.length ∧ ss.length = k ∧ Hid (bytesP l = cmb (cat ss) (bytesP (l.drop k)) ∧ (cat ss).length ≤ k * 2176) ∧ Hid (wr.ownsRow (w.heap.size + 1) 9 1 s5 k (ss.map Value.string)) ∧ Hid (Below (w.alloc (rB 0)).heap.size (w.alloc (rB 0)) wr)) (fun _ s20 _ => l.length - (intOf s20).toNat)
    case atStart => exact ⟨0, [], rfl, by omega, rfl, Lib.hid ⟨by rw [List.drop_zero]; exact (cmb_nil _ (bytes_no l)).symm, by simp [cat]⟩, Lib.hid (by simpa using hwo), Lib.hid hW⟩
    case round =>
      obtain ⟨k, ss, rfl, hk, hss, HF, HO, hB⟩ := hrel
      by_cases hlt : k < l.length
      · have b0 : Below w.heap.size w wr := ((Below.refl _ _).alloc (Nat.le_refl _) (rB 0)).trans (hB.out.mono (by simp))
        obtain ⟨_, _, he, _, hx⟩ := AT.out _ b0
        cases he
        obtain ⟨b1, o1, t, rfl, ok1, e1, s1, r1⟩ := hx k hlt
        have ho : OOk t.o := by
          have := OK.out l[k] (List.getElem_mem hlt)
          rw [← e1] at this
          exact this
        have LW := Lib.hid (ld_at ok1 r1)
        have LB := Lib.hid (ldSt ok1 (heap_new wr (sB t.h t.o t.v)))
        have hba : Below wr.heap.size wr (wr.alloc (sB t.h t.o t.v)) := (Below.refl _ _).alloc (Nat.le_refl _) _
        have P1 := Lib.hid (step_calls t.h t.o _ (wr.alloc (sB t.h t.o t.v)) ⟨t.v, rfl, s1.below hba⟩ ok1 ho)
        have HE2 := Lib.hid (show stepB l[k].1 l[k].2 = stepB t.h t.o by rw [← e1]; rfl)
        have HL := Lib.hid (stepB_le t.h t.o ok1 ho)
        have IS1 := Lib.hid (ISt ok1 t.o t.v)
        have RS1 := Lib.hid (rsz hd0_ok ok1 op0 t.o (.slice none 0 0) t.v)
        have OS1 := Lib.hid (one_tr s1)
        have B1 := Lib.hid hba
        have i2 : (k : Int) < (l.length : Int) := by omega
        clear hx e1 s1 r1 hba b0 ok1 ho HS OK HSt
        by_cases hq : (stepB t.h t.o).2 = 0
        · have HF2 := Lib.hid (bytes_more hlt HF.out.1 (by rw [HE2.out]; exact hq))
          rw [HE2.out] at HF2
          have HL2 := HF.out.2
          clear HB HF HE2 AT
          generalize stepB t.h t.o = z at *
          obtain ⟨z1, z2⟩ := z
          obtain rfl : z2 = 0 := hq
          go_wp2_with (first | (refine wpList_loadg (by rfl) 43 (.tmp 22) (by rfl) _ (by rfl) _ LW.out ?_) | (refine wpList_store_last rfl 43 _ _ rfl _ (sc t.h t.o t.v).toArray rfl rfl IS1.out RS1.out OS1.out ?_) | (refine wpList_loadg (by rfl) 43 (.tmp 7) (by rfl) _ (by rfl) _ LB.out ?_))
          refine P1.out.mono ?_
          rintro x1 w1 ⟨rfl, hb1⟩
          have B2 := Lib.hid (below_up hB.out (below_up B1.out hb1))
          have HO2 := Lib.hid (own_but HO.out (But.of_below (S := fun _ => False) (below_up B1.out hb1)) (fun _ e => e.elim))
          clear hb1 B1 hB HO
          go_wp2_with fail
          refine (HG.out _).mono ?_
          rintro x2 w2 ⟨rfl, rfl⟩
          have hsz := B2.out.size
          rw [World.size_alloc] at hsz
          go_wp2_with (at_builtin; refine wpList_append_own _ rfl _ _ 58 rfl (w.heap.size + 1) 9 is (.string .empty) 1 16 UStrs his his0 his1 his2 rfl (by decide) _ _ _ rfl (HO2.out.alloc _) ⟨w2.heap.size, 0, none⟩ 1 1 [.string (ba z1)] rfl ?c1 ?c2 ?c3 ?c4 ?c5 ?c6 ?_)
          case c1 => rfl
          case c2 => exact cell_one_new _ _ _
          case c3 => intro u hu; rw [List.mem_singleton.1 hu]; rfl
          case c4 => simp only [maxLen]; omega
          case c5 => omega
          case c6 => simp; omega
          intro v2 w3 ho2 hg2 _
          have B3 := Lib.hid (Below.grown (B := (w.alloc (rB 0)).heap.size) (B2.out.alloc (by rw [World.size_alloc]; omega) _) hg2 (by simp; omega) (fun k hk => by rw [World.size_alloc]; exact (HO2.out.lt k hk).1))
          have HO3 := Lib.hid (show w3.ownsRow (w.heap.size + 1) 9 1 v2 (k + 1) ((ss ++ [ba z1]).map Value.string) by rw [List.map_append]; exact ho2)
          have HC := Lib.hid (show cat (ss ++ [ba z1]) = cat ss ++ z1 by simp [cat, bs_ba])
          rw [← HC.out] at HF2
          have HL3 := Lib.hid (show (cat (ss ++ [ba z1])).length ≤ (k + 1) * 2176 by
            have := HL.out
            rw [HC.out, List.length_append]
            show _ + z1.length ≤ _
            change z1.length ≤ 2176 at this
            omega)
          clear ho2 hg2 HO2 B2 hsz HC HL HL2
          go_wp2_with fail
          go_roundw
          case rel => exact ⟨k + 1, ss ++ [ba z1], by go_num, by omega, by simp [hss], Lib.hid ⟨HF2.out, HL3.out⟩, HO3, B3⟩
          case measure => simp [intOf] <;> omega
        · have HE := Lib.hid (encP_stop hm'.out (bytes_stop hlt HF.out.1 (by rw [HE2.out]; exact hq)) (by rw [HE2.out]; exact hq))
          rw [HE2.out] at HE
          have HB1 := Lib.hid (HB.out _ hq)
          clear hq HB HG HF HO HE2 HL AT
          generalize stepB t.h t.o = z at *
          obtain ⟨z1, z2⟩ := z
          go_wp2_with (first | (refine wpList_loadg (by rfl) 43 (.tmp 22) (by rfl) _ (by rfl) _ LW.out ?_) | (refine wpList_store_last rfl 43 _ _ rfl _ (sc t.h t.o t.v).toArray rfl rfl IS1.out RS1.out OS1.out ?_) | (refine wpList_loadg (by rfl) 43 (.tmp 7) (by rfl) _ (by rfl) _ LB.out ?_))
          refine P1.out.mono ?_
          rintro x1 w1 ⟨rfl, hb1⟩
          have B2 := Lib.hid (below_up hB.out (below_up B1.out hb1))
          clear hb1 B1 hB
          go_wp2_with fail
          refine (HB1.out _).mono ?_
          rintro x2 w2 ⟨rfl, rfl⟩
          go_wp2_with fail
          refine leaves_cons (f := 79) (args := #[.pointer (some ⟨w.heap.size, 0, none⟩)]) (by simp) (enters_of Try.func79 (by kernel_rfl) rfl _ _) ?_
          refine (deferred_caught ⟨w.heap.size, 0, none⟩ z2 0 [] _ (rB_cell ((B2.out.block _ (new_lt w (rB 0))).trans (heap_new w (rB 0)))) (rB_free ((B2.out.block _ (new_lt w (rB 0))).trans (heap_new w (rB 0))))).mono ?_
          rintro e u' w'' ⟨rfl, rfl, rfl⟩
          obtain ⟨d1, d2⟩ := door_bad (e := z2) B2.out (.cells #[.int .i64 z2] 138)
          show Leaves _ _ _ _ [] .returning _
          refine ⟨.int .i64 z2, results_cell 4 24 ⟨w.heap.size, 0, none⟩ _ rfl rfl (rB_ld d2), ?_⟩
          rw [HE.out]
          exact ⟨rfl, r, by rw [List.append_nil]; exact H.out.keepB d1, QW.of_below d1⟩
      · obtain rfl : k = l.length := by omega
        have b0 : Below w.heap.size w wr := ((Below.refl _ _).alloc (Nat.le_refl _) (rB 0)).trans (hB.out.mono (by simp))
        have HN := Lib.hid (bnum_calls B q r l0 l.length wr (H.out.keepB b0) (by omega) (by omega))
        have t2 : decide ((l.length : Int) < (l.length : Int)) = false := decide_eq_false (by omega)
        have HE := Lib.hid (encP_done hm'.out HF.out.1)
        have HL2 := HF.out.2
        have hbs := H.out.base
        have hwsz := hB.out.size
        rw [World.size_alloc] at hwsz
        have hrb : wr.heap[w.heap.size]? = some (rB 0) := (hB.out.block _ (new_lt w (rB 0))).trans (heap_new w (rB 0))
        clear HB HG HSt AT HF
        go_wp2_with fail
        refine HN.out.mono ?_
        rintro x1 w1 ⟨rfl, r1, h1, hw1⟩
        have hlt1 := HO.out.lt
        have own1 := own_but HO.out hw1.1 (fun k hk => by have := (hbs.2 k hk).2; omega)
        have nq : ∀ k, w.heap.size ≤ k → q ≠ some k := fun k hk e => by have := (hbs.2 k (.inl e.symm)).2; omega
        have nr : ∀ k, w.heap.size ≤ k → k < wr.heap.size → r1 ≠ some k := fun k hk hk2 e => by
          rcases hw1.2 with e2 | ⟨j, e2, hj⟩
          · rw [e2] at e
            have := (hbs.2 k (.inr e.symm)).2
            omega
          · rw [e2] at e
            cases e
            omega
        have hrb1 : w1.heap[w.heap.size]? = some (rB 0) := (hw1.1.block _ (by omega) (fun hk => by have := (hbs.2 _ hk).2; omega)).trans hrb
        rw [← flatS, ← hss] at own1
        have hsl := SL.of_owns own1 (Buf.encS_len _) (by omega)
        have hpl := Num.putL_len10 l.length (by omega)
        have HR := Lib.hid (raw_calls B q r1 _ u5 ss w1 h1 hsl (by rw [List.length_append]; omega) (fun A n c e b o eA => by
          subst e
          subst eA
          have := hlt1 b rfl
          exact ⟨nq b (by omega), nr b (by omega) this.2⟩))
        have NQ := Lib.hid nq
        have NR := Lib.hid nr
        have HRB := Lib.hid hrb1
        have HW := Lib.hid ((QW.of_below (q := q) (r := r) b0).trans hw1)
        have hs1 := hw1.1.size
        clear hw1 h1 own1 hsl hlt1 nq nr hrb hrb1 b0 hB HN
        go_wp2_with fail
        refine HR.out.mono ?_
        rintro x2 w2 ⟨rfl, r2, h2, hw2⟩
        have hne2 : r2 ≠ some w.heap.size := fun e => by
          rcases hw2.2 with e2 | ⟨j, e2, hj⟩
          · rw [e2] at e
            exact NR.out _ (Nat.le_refl _) (by omega) e
          · rw [e2] at e
            cases e
            omega
        have hrb2 : w2.heap[w.heap.size]? = some (rB 0) := (hw2.1.block _ (by omega) (fun hk => hk.elim (fun e => NQ.out _ (Nat.le_refl _) e.symm) (fun e => NR.out _ (Nat.le_refl _) (by omega) e.symm))).trans HRB.out
        have HQ2 := Lib.hid (QB.keepC h2 (NQ.out _ (Nat.le_refl _)) hne2 (.int .i64 0))
        have HW2 := Lib.hid (QW.up (HW.out.trans hw2) ((Below.refl _ _).setCell (p := ⟨w.heap.size, 0, none⟩) (Nat.le_refl _) (.int .i64 0)))
        have HRB2 := Lib.hid (rB_set (x := 0) hrb2)
        have c1 := rB_cell hrb2
        have c2 := rB_free hrb2
        have hsz2 := (Array.getElem?_eq_some_iff.1 hrb2).1
        clear h2 hw2 hne2 hrb2 HW HRB NQ NR
        go_wp2_with fail
        refine leaves_cons (f := 79) (args := #[.pointer (some ⟨w.heap.size, 0, none⟩)]) (by simp) (enters_of Try.func79 (by kernel_rfl) rfl _ _) ?_
        refine (deferred_idle ⟨w.heap.size, 0, none⟩ _).mono ?_
        rintro e u' w4 ⟨rfl, rfl, hb4⟩
        show Leaves _ _ _ _ [] .returning _
        refine ⟨.int .i64 0, results_cell 4 24 ⟨w.heap.size, 0, none⟩ _ rfl rfl (rB_ld ((hb4.block _ (by simpa [World.setCell] using hsz2)).trans HRB2.out)), ?_⟩
        rw [HE.out]
        refine ⟨rfl, r2, ?_, QW.trans HW2.out (QW.of_below hb4)⟩
        have := HQ2.out.keepB hb4
        rw [List.append_assoc] at this
        exact this
end Go.Proofs.Ytcaocnlchfbeaaa.Pf
