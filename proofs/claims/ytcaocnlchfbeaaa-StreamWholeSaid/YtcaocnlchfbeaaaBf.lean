import Derived.Lib.FrozenHead
import Derived.Lib.FrozenHead2
import Derived.Lib.UnsafeStr
import Derived.Test.YtcaocnlchfbeaaaBa
import Derived.Test.YtcaocnlchfbeaaaProg
import Derived.BigRegion
import Derived.StillTailTactics
import Derived.BigQuiet
import Derived.Test.YtcaocnlchfbeaaaBb
/- The builder inside a Buf: what it holds, and what else a write leaves alone. -/
namespace Go.Proofs.Ytcaocnlchfbeaaa.Buf
open Go.RowKit Go.Proofs.Ytcaocnlchfbeaaa.Mk
/-- block b holds a Buf with the bytes l; r: the block of its row; both lie from B on -/
def BU (B b : Nat) (r : Option Nat) (l : List Value) (w : World) : Prop :=
  ∃ p v, (p = .pointer none ∨ p = .pointer (some ⟨b, 0, none⟩)) ∧ B ≤ b ∧ w.heap[b]? = some (.cells #[p, v] 114 (0, 0)) ∧
    w.ownsRowF B 5 1 v l.length l ∧ v.ownBlock = r
theorem BU.lt {B b : Nat} {r : Option Nat} {l : List Value} {w : World} (h : BU B b r l w) : b < w.heap.size ∧ B ≤ b := by
  obtain ⟨p, v, _, hB, hb, _⟩ := h
  exact ⟨(Array.getElem?_eq_some_iff.1 hb).1, hB⟩
theorem BU.row {B b g : Nat} {l : List Value} {w : World} (h : BU B b (some g) l w) : g < w.heap.size ∧ B ≤ g := by
  obtain ⟨p, v, _, hB, hb, ho, hr⟩ := h
  have := ho.lt g hr
  exact ⟨this.2, this.1⟩
theorem BU.ne {B b : Nat} {r : Option Nat} {l : List Value} {w : World} (h : BU B b r l w) : r ≠ some b := by
  obtain ⟨p, v, _, hB, hb, ho, hr⟩ := h
  rw [← hr]
  exact Lib.ownBlock_neF ho hb (by decide)
/-- it lies on wherever its two blocks lie on -/
theorem BU.keep {S : Nat → Prop} {B b : Nat} {r : Option Nat} {l : List Value} {w w' : World} (h : BU B b r l w) (hk : But S w w') (hb : ¬ S b) (hr : ∀ g, r = some g → ¬ S g) : BU B b r l w' := by
  have hlt := h.lt
  obtain ⟨p, v, hp, hB, hh, ho, hv⟩ := h
  refine ⟨p, v, hp, hB, (hk.block b hlt.1 hb).trans hh, ⟨ho.1, ?_⟩, hv⟩
  rcases ho.2 with h1 | ⟨g, cap, cur, fz, h1, h2, h3, h4⟩
  · exact .inl h1
  · refine .inr ⟨g, cap, cur, fz, h1, h2, ?_, h4⟩
    have hg : r = some g := by rw [← hv, h1]; rfl
    rw [hk.block g (Array.getElem?_eq_some_iff.1 h3).1 (hr g hg)]
    exact h3
theorem BU.keepB {B b : Nat} {r : Option Nat} {l : List Value} {w w' : World} (h : BU B b r l w) (hk : Below w.heap.size w w') : BU B b r l w' :=
  h.keep (But.of_below (S := fun _ => False) hk) (fun e => e) (fun _ _ e => e)
/-- what a write to a Buf may turn: its block, its row; and where its row lies behind -/
def Wr (b : Nat) (r r' : Option Nat) (w w' : World) : Prop := But (fun k => k = b ∨ some k = r) w w' ∧ (r' = r ∨ ∃ k, r' = some k ∧ w.heap.size ≤ k)
theorem Wr.refl (b : Nat) (r : Option Nat) (w : World) : Wr b r r w w := ⟨But.refl _ _, .inl rfl⟩
theorem Wr.trans {b : Nat} {r1 r2 r3 : Option Nat} {w1 w2 w3 : World} (h : Wr b r1 r2 w1 w2) (k : Wr b r2 r3 w2 w3) : Wr b r1 r3 w1 w3 := by
  refine ⟨h.1.trans k.1 ?_, ?_⟩
  · intro i hi hs
    rcases hs with hs | hs
    · exact .inl hs
    · rcases h.2 with e | ⟨g, e, hg⟩
      · exact .inr (by rw [← e]; exact hs)
      · rw [e] at hs
        cases hs
        omega
  · rcases k.2 with e | ⟨g, e, hg⟩
    · rw [e]; exact h.2
    · exact .inr ⟨g, e, Nat.le_trans h.1.size hg⟩
theorem Wr.of_below {b : Nat} {r : Option Nat} {w w' : World} (h : Below w.heap.size w w') : Wr b r r w w' := ⟨But.of_below h, .inl rfl⟩
theorem Wr.below {B b : Nat} {r r' : Option Nat} {l : List Value} {w w' : World} (h : Wr b r r' w w') (hb : BU B b r l w) : Below B w w' :=
  h.1.below (by have := hb.lt; omega) (fun i hi => by
    rcases hi with rfl | hi
    · exact hb.lt.2
    · subst hi; exact hb.row.2)
/-- another Buf lies on -/
theorem BU.other {B b B2 b2 : Nat} {r r2 r2' : Option Nat} {l l2 : List Value} {w w' : World} (h : BU B b r l w) (_h2 : BU B2 b2 r2 l2 w) (hw : Wr b2 r2 r2' w w') (hne : b ≠ b2) (hr : r2 ≠ some b) (hrb : r ≠ some b2) (hrr : r = none ∨ r ≠ r2) : BU B b r l w' :=
  h.keep hw.1 (fun e => e.elim hne (fun e => hr e.symm)) (fun g hg e => e.elim (fun e => hrb (by rw [hg, e])) (fun e => by
    rcases hrr with h0 | h0
    · rw [h0] at hg; cases hg
    · exact h0 (by rw [hg, e])))
end Go.Proofs.Ytcaocnlchfbeaaa.Buf

/- The walks of the builder's copy check, WriteString and Len, at a Buf. -/
namespace Go.Proofs.Ytcaocnlchfbeaaa.Buf
open Go.RowKit Go.Proofs.Ytcaocnlchfbeaaa.Mk
theorem infoByte : (Try.prog.info? 5).map (fun i => (i.zero, i.size, i.bytes)) = some (some (.int .u8 0), 1, 1) := by kernel_rfl
theorem sizeBld : (Try.prog.info? 112).map (·.size) = some 2 := by kernel_rfl
theorem liesBld : liesAt Try.prog Try.prog.depth 114 (2 / Try.prog.cellsOf 114) 0 112 1 = true := by kernel_rfl
theorem UBy : Try.prog.underlying 5 = some (.int .u8) := by kernel_rfl
theorem UBs : Try.prog.underlying 110 = some (.slice 5) := by kernel_rfl
theorem USt : Try.prog.underlying 9 = some .string := by kernel_rfl
theorem UPb : Try.prog.underlying 109 = some (.pointer 112) := by kernel_rfl
theorem UUp : Try.prog.underlying 149 = some .unsafePointer := by kernel_rfl
theorem shape_buf {b : Nat} {p v : Value} {w : World} (hb : w.heap[b]? = some (.cells #[p, v] 114 (0, 0))) : w.shape? b = some (114, 2) := by simp [World.shape?, hb]
set_option maxHeartbeats 1000000 in
set_option maxRecDepth 100000 in
theorem check_fresh (b : Nat) (v : Value) (w : World) (hb : w.heap[b]? = some (.cells #[.pointer none, v] 114 (0, 0))) :
    Calls Try.prog 106 #[.pointer (some ⟨b, 0, none⟩)] w fun e w' => e = .returned (.tuple #[]) ∧ w' = w.setCell ⟨b, 0, none⟩ (.pointer (some ⟨b, 0, none⟩)) := by
  obtain ⟨j, hj, hjs⟩ := Option.map_eq_some_iff.1 sizeBld
  have hsh := shape_buf hb
  have h0 : w.cell? ⟨b, 0, none⟩ = some (.pointer none) := by rw [Lib.cell_of_heap hb]; rfl
  have hfz : w.frozen? ⟨b, 0, none⟩ = false := Lib.frozen_of_heap hb 0
  have Hsh := Lib.hid hsh
  have Hj := Lib.hid hj
  have Hjs := Lib.hid hjs
  clear hsh hj hjs hb
  go_enter Try.func106, Try.ntmps106
  go_wp2_with fail
  rw [Lib.run_to_unsafe w ⟨b, 0, none⟩ UPb UUp Hj.out (by rw [Hjs.out]; decide) Hsh.out (Nat.zero_lt_succ 1)]
  simp only [Result.andThen]
  rw [Oper.upon_value]
  go_wp2_with fail
  rw [run_callFunc_extern Try.func116 (by kernel_rfl) (by kernel_rfl) (by kernel_rfl) (e := Extern.AbiNoEscape.same) (by kernel_rfl)]
  rw [Lib.run_noEscape]
  simp only [Result.andThen]
  rw [Oper.upon_value]
  go_wp2_with fail
  rw [Lib.run_from_unsafe w ⟨b, 0, none⟩ UUp UPb Hj.out Hsh.out liesBld]
  simp only [Result.andThen]
  rw [Oper.upon_value]
  go_wp2_with fail
  go_end0
  exact ⟨rfl, rfl⟩
set_option maxHeartbeats 1000000 in
theorem check_used (b : Nat) (v : Value) (w : World) (hb : w.heap[b]? = some (.cells #[.pointer (some ⟨b, 0, none⟩), v] 114 (0, 0))) :
    Calls Try.prog 106 #[.pointer (some ⟨b, 0, none⟩)] w fun e w' => e = .returned (.tuple #[]) ∧ w' = w := by
  obtain ⟨j, hj, hjs⟩ := Option.map_eq_some_iff.1 sizeBld
  have h0 : w.cell? ⟨b, 0, none⟩ = some (.pointer (some ⟨b, 0, none⟩)) := by rw [Lib.cell_of_heap hb]; rfl
  have hne : ∀ wx, (binOp .neq 109 (.pointer (some ⟨b, 0, none⟩)) (.pointer (some ⟨b, 0, none⟩))).run Try.prog wx = .ok (.bool false) wx := fun wx => Lib.run_neq_ptr_same wx ⟨b, 0, none⟩ UPb hj
  clear hb hj hjs
  go_enter Try.func106, Try.ntmps106
  go_wp2_with fail
  go_end0
  exact ⟨rfl, rfl⟩
theorem check_calls (B b : Nat) (r : Option Nat) (l : List Value) (w : World) (h : BU B b r l w) :
    Calls Try.prog 106 #[.pointer (some ⟨b, 0, none⟩)] w fun e w' => e = .returned (.tuple #[]) ∧
      ∃ v, w'.heap[b]? = some (.cells #[.pointer (some ⟨b, 0, none⟩), v] 114 (0, 0)) ∧ w'.ownsRowF B 5 1 v l.length l ∧ v.ownBlock = r ∧ Wr b r r w w' := by
  have hne := h.ne
  obtain ⟨p, v, hp, hB, hb, ho, hr⟩ := h
  rcases hp with rfl | rfl
  · refine (check_fresh b v w hb).mono ?_
    rintro e w' ⟨rfl, rfl⟩
    refine ⟨rfl, v, ?_, ?_, hr, (But.refl _ w).setCell (p := ⟨b, 0, none⟩) (.inl rfl) _, .inl rfl⟩
    · simp [World.setCell, Array.getElem?_modify, hb]
    · exact ho.kept (row := some b) ⟨rfl, rfl, rfl, by simp [World.setCell], fun k _ hk => Below.heap_setCell _ _ _ _ (fun e => hk (by simp [e]))⟩ (.inr (by rw [hr]; exact hne))
  · refine (check_used b v w hb).mono ?_
    rintro e w' ⟨rfl, rfl⟩
    exact ⟨rfl, v, hb, ho, hr, Wr.refl _ _ _⟩
/-- an append of a string: where the row lies behind -/
theorem append_string (w : World) (B : Nat) (i : TypeInfo) (hi : Try.prog.info? 5 = some i) (hz : i.zero = some (.int .u8 0)) (h1 : i.size = 1) (h2 : i.bytes = 1) (v : Value) (n : Nat) (l : List Value) (ho : w.ownsRowF B 5 1 v n l) (s : ByteArray) (ty : TypeId)
    (hlen : n + s.size ≤ 140737488355328) (hB : B ≤ w.heap.size) :
    ∃ v' w', (Builtin.append_ #[110, 9] ty #[v, .string s]).run Try.prog w = .ok v' w' ∧ w'.ownsRowF B 5 1 v' (n + s.size) (l ++ hc (bs s)) ∧ w.grownBy w' v.ownBlock ∧
      (v'.ownBlock = v.ownBlock ∨ ∃ k, v'.ownBlock = some k ∧ w.heap.size ≤ k) ∧ ∃ A c, v' = .slice A (n + s.size) c := by
  have h63 : n + s.size ≤ maxLen := by unfold maxLen; omega
  obtain ⟨v', w', hr, q2, q3, q4⟩ := Lib.run_append_own_stringF (P := Try.prog) w B 110 9 ty 5 i UBs USt hi hz h1 h2 v n l ho s h63 hlen hB
  refine ⟨v', w', hr, q2, q3, ?_, ?_⟩
  · rcases ho.2 with ⟨rfl, rfl⟩ | ⟨g, cap, cur, fz, rfl, hbg, hg, hfz, hnc, hcm, hcs, htake⟩
    · have ho' : w.ownsRowF w.heap.size 5 1 (.slice none 0 0) 0 l := ⟨ho.1, .inl ⟨rfl, rfl⟩⟩
      obtain ⟨v2, w2, hr2, p2, p3, p4⟩ := Lib.run_append_own_stringF (P := Try.prog) w w.heap.size 110 9 ty 5 i UBs USt hi hz h1 h2 _ 0 l ho' s h63 hlen (Nat.le_refl _)
      rw [hr] at hr2
      cases hr2
      cases hv : v'.ownBlock with
      | none => exact .inl rfl
      | some k => exact .inr ⟨k, rfl, (p2.lt k hv).1⟩
    · by_cases hroom : n + s.size ≤ cap
      · have := Lib.run_append_room_stringF (P := Try.prog) w 110 9 ty 5 i UBs USt hi h1 g n cap cur fz hg (by simpa using hfz) s hroom (by simp at hcs; omega)
        rw [hr] at this
        cases this
        exact .inl rfl
      · have hxl : l.length = n := by simpa using ho.1
        have := Lib.run_append_grow_string (P := Try.prog) w 110 9 ty 5 i (.int .u8 0) UBs USt hi hz ⟨g, 0, none⟩ n cap l (by rw [h1]; simpa using hxl) (ho.cells rfl) s (by omega) (by omega) (by rw [h2]; exact growslice_fits (by omega) (by omega))
        rw [hr] at this
        cases this
        exact .inr ⟨w.heap.size, rfl, Nat.le_refl _⟩
  · rcases q2.2 with ⟨e1, e2⟩ | ⟨g, cap, cur, fz, e1, _⟩
    · exact ⟨none, 0, by rw [e1, e2]⟩
    · exact ⟨_, _, e1⟩
end Go.Proofs.Ytcaocnlchfbeaaa.Buf

/- The walks of the builder's WriteString, Len and String, at a Buf. -/
namespace Go.Proofs.Ytcaocnlchfbeaaa.Buf
open Go.RowKit Go.Proofs.Ytcaocnlchfbeaaa.Mk
theorem grownBy_setCell1 (w : World) (b : Nat) (v : Value) : w.grownBy (w.setCell ⟨b, 1, none⟩ v) (some b) :=
  ⟨rfl, rfl, rfl, by simp [World.setCell], fun k _ hk => Below.heap_setCell _ _ _ _ (fun e => hk (by simp [e]))⟩
theorem wpList_append_run {P : Program} {ops : Array Oper} {rest : List Oper} {o : Oper} {a : Act} {w : World} {Q : Exit → Act → World → Prop} (hgd : o.guard = none) (sl x : Operand) (t u : TypeId)
    (ho : o.op = .call { callee := .builtin .append, args := #[sl, x], argTypes := #[t, u] }) (v sv v' : Value) (w' : World) (hs : a.eval sl = v) (hx : a.eval x = sv)
    (hrun : (Builtin.append_ #[t, u] o.type #[v, sv]).run P w = .ok v' w') (h : wpList P ops Q rest (a.put o.dst v') w') : wpList P ops Q (o :: rest) a w := by
  refine wpList_plain hgd fun K hK => ?_
  unfold Oper.wp execOp
  simp only [ho, resolve, invoke, builtin, Sem.run_bind, Sem.run_pure, Result.andThen_ok, List.map_toArray, List.map_cons, List.map_nil, hs, hx, hrun]
  exact hK _ _ h
set_option maxHeartbeats 2000000 in
theorem write_calls (B b : Nat) (r : Option Nat) (l : List Value) (s : ByteArray) (w : World) (h : BU B b r l w) (hlen : l.length + s.size ≤ 140737488355328) :
    Calls Try.prog 78 #[.pointer (some ⟨b, 0, none⟩), .string s] w fun e w' => e = .returned (.tuple #[.int .i64 s.size, .nilIface]) ∧ ∃ r', BU B b r' (l ++ hc (bs s)) w' ∧ Wr b r r' w w' := by
  obtain ⟨i0, hi, hz0, hz1, hz2⟩ := info_parts infoByte
  have hBw : B ≤ w.heap.size := by have := h.lt; omega
  have hne := h.ne
  have HC := Lib.hid (check_calls B b r l w h)
  have hBb := h.lt
  clear h
  go_enter Try.func78, Try.ntmps78
  go_wp2_with fail
  refine HC.out.mono ?_
  rintro e w1 ⟨rfl, v, hbk, ho, hr, hw1⟩
  have c0 : w1.cell? ⟨b, 0, none⟩ = some (.pointer (some ⟨b, 0, none⟩)) := by rw [Lib.cell_of_heap hbk]; rfl
  have c1 : w1.cell? ⟨b, 1, none⟩ = some v := by rw [Lib.cell_of_heap hbk]; rfl
  obtain ⟨v', w2, hrun, q2, q3, q4, A', c', rfl⟩ := append_string w1 B i0 hi hz0 hz1 hz2 v l.length l ho s 110 hlen (Nat.le_trans hBw hw1.1.size)
  have hlt : b < w1.heap.size := (Array.getElem?_eq_some_iff.1 hbk).1
  have hb2 : w2.heap[b]? = some (.cells #[.pointer (some ⟨b, 0, none⟩), v] 114 (0, 0)) := by
    rw [q3.block b hlt (fun e => hne (by rw [← hr, ← e]))]
    exact hbk
  have d1 : w2.cell? ⟨b, 1, none⟩ = some v := by rw [Lib.cell_of_heap hb2]; rfl
  have f1 : w2.frozen? ⟨b, 1, none⟩ = false := Lib.frozen_of_heap hb2 1
  have Hne := Lib.hid hne
  have Hr := Lib.hid hr
  have Hbk := Lib.hid hbk
  have Hb2 := Lib.hid hb2
  have Q := Lib.hid (And.intro q2 (And.intro q3 q4))
  have Hrun := Lib.hid hrun
  clear hne hr hbk hb2 q2 q3 q4 hi hz0 hz1 hz2 hrun
  go_wp2_with (at_builtin; refine wpList_append_run rfl _ _ _ _ rfl v (.string s) _ w2 rfl rfl Hrun.out ?_)
  go_ret2
  obtain ⟨q2, q3, q4⟩ := Q.out
  have q5 := q4
  rw [Hr.out] at q5
  refine ⟨rfl, (Value.slice A' (l.length + s.size) c').ownBlock, ⟨_, _, .inr rfl, hBb.2, ?_, ?_, rfl⟩, hw1.trans ⟨?_, ?_⟩⟩
  · have hb3 := Hb2.out
    show (w2.setCell ⟨b, 1, none⟩ (.slice A' (l.length + s.size) c')).heap[b]? = _
    simp [World.setCell, Array.getElem?_modify, hb3]
  · have hl : (l ++ hc (bs s)).length = l.length + s.size := by rw [List.length_append, hc_len, bs_len]
    rw [hl]
    exact q2.kept (grownBy_setCell1 w2 b _) (.inr (Lib.ownBlock_neF q2 Hb2.out (by decide)))
  · exact ((But.refl _ w1).grown q3 (fun k _ hk => .inr (by rw [← Hr.out, hk]))).setCell (p := ⟨b, 1, none⟩) (.inl rfl) _
  · exact q5
theorem UPy : Try.prog.underlying 140 = some (.pointer 5) := by kernel_rfl
theorem cellsByte : Try.prog.cellsOf 5 = 1 := by kernel_rfl
theorem hc_byte (l : List UInt8) : hc l = Lib.byteCells l := rfl
theorem freeze_but {S : Nat → Prop} {w : World} (g n : Nat) (hS : S g) : But S w (w.freeze ⟨g, 0, none⟩ n) := by
  have hb := Lib.below_freeze (B := 0) (Below.refl 0 w) (p := ⟨g, 0, none⟩) (Nat.zero_le _) n
  refine ⟨hb.os, hb.tape, hb.output, hb.size, fun k _ hk => ?_⟩
  unfold World.freeze
  split
  · rfl
  · simp only [Array.getElem?_modify]
    rw [if_neg (fun e => hk (by rw [← e]; exact hS))]
set_option maxHeartbeats 4000000 in
set_option maxRecDepth 100000 in
theorem string_some (B b g cap : Nat) (p : Value) (l : List UInt8) (cur : Array Value) (fz : Nat × Nat) (w : World) (hp : p = .pointer none ∨ p = .pointer (some ⟨b, 0, none⟩)) (hB : B ≤ b)
    (hb : w.heap[b]? = some (.cells #[p, .slice (some ⟨g, 0, none⟩) l.length cap] 114 (0, 0))) (ho : w.ownsRowF B 5 1 (.slice (some ⟨g, 0, none⟩) l.length cap) l.length (hc l))
    (hg : w.heap[g]? = some (.cells cur 5 fz)) (hn : l.length ≤ cap) (hcm : cap ≤ maxLen) (hcs : cur.size = cap) (h0 : l ≠ []) :
    Calls Try.prog 83 #[.pointer (some ⟨b, 0, none⟩)] w fun e w' => e = .returned (.string (ba l)) ∧ BU B b (some g) (hc l) w' ∧ Wr b (some g) (some g) w w' := by
  have hl0 : l.length ≠ 0 := by simpa using h0
  have c1 : w.drew.cell? ⟨b, 1, none⟩ = some (.slice (some ⟨g, 0, none⟩) l.length cap) := by
    have : w.drew.heap[b]? = some (.cells #[p, .slice (some ⟨g, 0, none⟩) l.length cap] 114 (0, 0)) := hb
    rw [Lib.cell_of_heap this]; rfl
  have hSD : (Builtin.unsafeSliceData_ #[110] 140 #[.slice (some ⟨g, 0, none⟩) l.length cap]).run Try.prog w.drew = .ok (.pointer (some ⟨g, 0, none⟩)) w.drew :=
    Lib.run_unsafeSliceData_row _ _ _ _ _ _ (by omega)
  have hUS : (Builtin.unsafeString_ #[140, 3] 9 #[.pointer (some ⟨g, 0, none⟩), .int .i64 l.length]).run Try.prog w.drew = .ok (.string (ba l)) (w.drew.freeze ⟨g, 0, none⟩ l.length) := by
    refine Lib.run_unsafeString_row w.drew 140 3 9 5 UPy cellsByte g cur.size (by have hg' : w.drew.heap[g]? = some (.cells cur 5 fz) := hg; simp [World.shape?, hg']) l h0 (by omega) (by unfold maxLen at hcm; omega) ?_
    intro j x hx
    exact ho.cells (g := g) rfl j (.int .u8 x.toNat) (by rw [hc_byte]; simp [Lib.byteCells, hx])
  have hne : (Value.slice (some ⟨g, 0, none⟩) l.length cap).ownBlock ≠ some b := Lib.ownBlock_neF ho hb (by decide)
  have hkeep : BU B b (some g) (hc l) (w.drew.freeze ⟨g, 0, none⟩ l.length) := by
    have hA : Lib.BuilderAtF 114 5 B b p (Lib.byteCells l) w.drew := ⟨hB, _, hb, by rw [Lib.byteCells_length]; exact ho, hne⟩
    have hF := hA.froze (g := g) (cap := cap) (by rw [Lib.byteCells_length]; exact c1)
    rw [Lib.byteCells_length] at hF
    obtain ⟨_, v, hv1, hv2, hv3⟩ := hF
    have hvb : (w.drew.freeze ⟨g, 0, none⟩ l.length).heap[b]? = w.heap[b]? := by
      refine (freeze_but (S := fun k => k = g) (w := w.drew) g l.length rfl).block b (Array.getElem?_eq_some_iff.1 hb).1 (fun e => hne (by rw [e]; rfl))
    rw [hvb, hb] at hv1
    cases hv1
    exact ⟨p, _, hp, hB, hvb.trans hb, hv2, rfl⟩
  have hwr : Wr b (some g) (some g) w (w.drew.freeze ⟨g, 0, none⟩ l.length) :=
    ⟨But.trans (S := fun k => k = b ∨ some k = some g) (S' := fun k => k = b ∨ some k = some g) (b := w.drew) ⟨rfl, rfl, rfl, Nat.le_refl _, fun _ _ _ => rfl⟩ (freeze_but g l.length (.inr rfl)) (fun _ _ e => e), .inl rfl⟩
  clear hb ho hg hn hcm hcs h0 hne hp
  have Hk := Lib.hid hkeep
  have Hw := Lib.hid hwr
  have L0 := Lib.hid hl0
  clear hkeep hwr hl0
  go_enter Try.func83, Try.ntmps83
  go_wp2_with fail
  go_region
  all_goals (go_wp2_with fail; go_ret; exact ⟨rfl, Hk.out, Hw.out⟩)
theorem string_nil_run (W : World) (q : Option Addr) : (Builtin.unsafeString_ #[140, 3] 9 #[.pointer q, .int .i64 0]).run Try.prog W = .ok (.string .empty) W := Lib.run_unsafeString_none W _ _ _ q
theorem drew_wr (b : Nat) (r : Option Nat) (w : World) : Wr b r r w w.drew := ⟨⟨rfl, rfl, rfl, Nat.le_refl _, fun _ _ _ => rfl⟩, .inl rfl⟩
set_option maxHeartbeats 4000000 in
set_option maxRecDepth 100000 in
theorem string_nil (b : Nat) (p : Value) (w : World) (hb : w.heap[b]? = some (.cells #[p, .slice none 0 0] 114 (0, 0))) :
    Calls Try.prog 83 #[.pointer (some ⟨b, 0, none⟩)] w fun e w' => e = .returned (.string .empty) ∧ Below w.heap.size w w' := by
  have hUS := string_nil_run
  have c1 : w.drew.cell? ⟨b, 1, none⟩ = some (.slice none 0 0) := by
    have : w.drew.heap[b]? = some (.cells #[p, .slice none 0 0] 114 (0, 0)) := hb
    rw [Lib.cell_of_heap this]; rfl
  have hSD : (Builtin.unsafeSliceData_ #[110] 140 #[.slice none 0 0]).run Try.prog w.drew = .ok (.pointer none) w.drew := rfl
  clear hb
  go_enter Try.func83, Try.ntmps83
  go_wp2_with fail
  go_region
  all_goals (go_wp2_with fail; go_ret; exact ⟨rfl, (Below.refl _ _).drew⟩)
set_option maxHeartbeats 4000000 in
set_option maxRecDepth 100000 in
theorem string_room (b g cap : Nat) (p : Value) (w : World) (hc0 : cap ≠ 0) (hb : w.heap[b]? = some (.cells #[p, .slice (some ⟨g, 0, none⟩) 0 cap] 114 (0, 0))) :
    Calls Try.prog 83 #[.pointer (some ⟨b, 0, none⟩)] w fun e w' => e = .returned (.string .empty) ∧ Below w.heap.size w w' := by
  have hUS := string_nil_run
  have c1 : w.drew.cell? ⟨b, 1, none⟩ = some (.slice (some ⟨g, 0, none⟩) 0 cap) := by
    have : w.drew.heap[b]? = some (.cells #[p, .slice (some ⟨g, 0, none⟩) 0 cap] 114 (0, 0)) := hb
    rw [Lib.cell_of_heap this]; rfl
  have hSD : (Builtin.unsafeSliceData_ #[110] 140 #[.slice (some ⟨g, 0, none⟩) 0 cap]).run Try.prog w.drew = .ok (.pointer (some ⟨g, 0, none⟩)) w.drew :=
    Lib.run_unsafeSliceData_row _ _ _ _ _ _ hc0
  clear hb hc0
  go_enter Try.func83, Try.ntmps83
  go_wp2_with fail
  go_region
  all_goals (go_wp2_with fail; go_ret; exact ⟨rfl, (Below.refl _ _).drew⟩)
set_option maxHeartbeats 4000000 in
set_option maxRecDepth 100000 in
theorem string_noroom (b g : Nat) (p : Value) (cur : Array Value) (fz : Nat × Nat) (w : World) (hb : w.heap[b]? = some (.cells #[p, .slice (some ⟨g, 0, none⟩) 0 0] 114 (0, 0))) (hg : w.heap[g]? = some (.cells cur 5 fz)) :
    Calls Try.prog 83 #[.pointer (some ⟨b, 0, none⟩)] w fun e w' => e = .returned (.string .empty) ∧ Below w.heap.size w w' := by
  have hUS := string_nil_run
  have hlt : b < w.heap.size := (Array.getElem?_eq_some_iff.1 hb).1
  have c1 : w.drew.cell? ⟨b, 1, none⟩ = some (.slice (some ⟨g, 0, none⟩) 0 0) := by
    have : w.drew.heap[b]? = some (.cells #[p, .slice (some ⟨g, 0, none⟩) 0 0] 114 (0, 0)) := hb
    rw [Lib.cell_of_heap this]; rfl
  have hSD : (Builtin.unsafeSliceData_ #[110] 140 #[.slice (some ⟨g, 0, none⟩) 0 0]).run Try.prog w.drew = .ok (.pointer (some ⟨w.drew.heap.size, 0, none⟩)) (w.drew.alloc (.view ⟨g, 0, none⟩ 5)) :=
    Lib.run_unsafeSliceData_zero w.drew _ _ 5 UPy ⟨g, 0, none⟩ 0 (5, cur.size) (by have hg' : w.drew.heap[g]? = some (.cells cur 5 fz) := hg; simp [World.shape?, hg'])
  have c2 : (w.drew.alloc (.view ⟨g, 0, none⟩ 5)).cell? ⟨b, 1, none⟩ = some (.slice (some ⟨g, 0, none⟩) 0 0) := by
    have : (w.drew.alloc (.view ⟨g, 0, none⟩ 5)).heap[b]? = _ := (Lib.alloc_old w.drew _ b hlt).trans hb
    rw [Lib.cell_of_heap this]; rfl
  have c3 : (w.alloc (.view ⟨g, 0, none⟩ 5)).drew.cell? ⟨b, 1, none⟩ = some (.slice (some ⟨g, 0, none⟩) 0 0) := c2
  have c0 : w.cell? ⟨b, 1, none⟩ = some (.slice (some ⟨g, 0, none⟩) 0 0) := c1
  clear hb hg hlt
  go_enter Try.func83, Try.ntmps83
  go_wp2_with fail
  go_region
  all_goals (go_wp2_with fail; go_ret; exact ⟨rfl, (Below.drew (Below.refl _ _)).alloc (Nat.le_refl _) _⟩)
theorem string_calls (B b : Nat) (r : Option Nat) (l : List UInt8) (w : World) (h : BU B b r (hc l) w) :
    Calls Try.prog 83 #[.pointer (some ⟨b, 0, none⟩)] w fun e w' => e = .returned (.string (ba l)) ∧ BU B b r (hc l) w' ∧ Wr b r r w w' := by
  have h' := h
  obtain ⟨p, v, hp, hB, hb, ho, hr⟩ := h
  have fin : ∀ (e : Ending) (w' : World), l = [] → (e = .returned (.string .empty) ∧ Below w.heap.size w w') → e = .returned (.string (ba l)) ∧ BU B b r (hc l) w' ∧ Wr b r r w w' := by
    rintro e w' hl ⟨he, hbl⟩
    exact ⟨by rw [he, hl]; rfl, h'.keepB hbl, Wr.of_below hbl⟩
  rcases ho.2 with ⟨rfl, h0⟩ | ⟨g, cap, cur, fz, rfl, hbg, hg, hfz, hnc, hcm, hcs, htake⟩
  · have hl : l = [] := by rw [hc_len] at h0; exact List.eq_nil_of_length_eq_zero h0
    exact (string_nil b p w hb).mono (fun e w' q => fin e w' hl q)
  · rw [hc_len] at *
    cases l with
    | nil =>
      by_cases hc0 : cap = 0
      · subst hc0
        exact (string_noroom b g p cur fz w hb hg).mono (fun e w' q => fin e w' rfl q)
      · exact (string_room b g cap p w hc0 hb).mono (fun e w' q => fin e w' rfl q)
    | cons x m =>
      obtain rfl : some g = r := hr
      exact string_some B b g cap p (x :: m) cur fz w hp hB hb ho hg hnc hcm (by simpa using hcs) (by simp)
end Go.Proofs.Ytcaocnlchfbeaaa.Buf

/- The walks of a Buf's methods, at a Buf and at nil. -/
namespace Go.Proofs.Ytcaocnlchfbeaaa.Buf
open Go.RowKit Go.Proofs.Ytcaocnlchfbeaaa.Mk
/-- a receiver: nil, or the Buf in a block -/
def qv (q : Option Nat) : Value := .pointer (q.map fun b => ⟨b, 0, none⟩)
theorem qv_none : qv none = .pointer none := rfl
theorem qv_some (b : Nat) : qv (some b) = .pointer (some ⟨b, 0, none⟩) := rfl
/-- what it holds; nil holds nothing to speak of -/
def QB (B : Nat) (q r : Option Nat) (l : List UInt8) (w : World) : Prop :=
  match q with
  | none => r = none ∧ B ≤ w.heap.size
  | some b => BU B b r (hc l) w
/-- what a write through it may turn -/
def QW (q r r' : Option Nat) (w w' : World) : Prop := But (fun k => some k = q ∨ some k = r) w w' ∧ (r' = r ∨ ∃ k, r' = some k ∧ w.heap.size ≤ k)
theorem QW.refl (q r : Option Nat) (w : World) : QW q r r w w := ⟨But.refl _ _, .inl rfl⟩
theorem QW.trans {q r1 r2 r3 : Option Nat} {w1 w2 w3 : World} (h : QW q r1 r2 w1 w2) (k : QW q r2 r3 w2 w3) : QW q r1 r3 w1 w3 := by
  refine ⟨h.1.trans k.1 ?_, ?_⟩
  · intro i hi hs
    rcases hs with hs | hs
    · exact .inl hs
    · rcases h.2 with e | ⟨g, e, hg⟩
      · exact .inr (by rw [← e]; exact hs)
      · rw [e] at hs
        cases hs
        omega
  · rcases k.2 with e | ⟨g, e, hg⟩
    · rw [e]; exact h.2
    · exact .inr ⟨g, e, Nat.le_trans h.1.size hg⟩
theorem QW.of_below {q r : Option Nat} {w w' : World} (h : Below w.heap.size w w') : QW q r r w w' := ⟨But.of_below h, .inl rfl⟩
theorem QW.of_wr {b : Nat} {r r' : Option Nat} {w w' : World} (h : Wr b r r' w w') : QW (some b) r r' w w' := ⟨h.1.mono (fun i _ hi => hi.imp (fun e => by rw [e]) id), h.2⟩
theorem QB.keepB {B : Nat} {q r : Option Nat} {l : List UInt8} {w w' : World} (h : QB B q r l w) (hk : Below w.heap.size w w') : QB B q r l w' := by
  cases q with
  | none => exact ⟨h.1, Nat.le_trans h.2 hk.size⟩
  | some b => exact BU.keepB h hk
theorem QB.base {B : Nat} {q r : Option Nat} {l : List UInt8} {w : World} (h : QB B q r l w) : B ≤ w.heap.size ∧ (∀ k, some k = q ∨ some k = r → B ≤ k ∧ k < w.heap.size) := by
  cases q with
  | none => exact ⟨h.2, fun k hk => by rw [h.1] at hk; simp at hk⟩
  | some b =>
    have h1 := BU.lt h
    refine ⟨by omega, fun k hk => ?_⟩
    rcases hk with e | e
    · cases e; exact ⟨h1.2, h1.1⟩
    · subst e
      have := BU.row h
      exact ⟨this.2, this.1⟩
theorem QW.below {B : Nat} {q r r' : Option Nat} {l : List UInt8} {w w' : World} (h : QW q r r' w w') (hb : QB B q r l w) : Below B w w' :=
  h.1.below hb.base.1 (fun i hi => (hb.base.2 i hi).1)
/-- what lies in other blocks lies on -/
theorem QW.cell {q r r' : Option Nat} {w w' : World} {b o : Nat} {v : Value} (h : QW q r r' w w') (hc : w.cell? ⟨b, o, none⟩ = some v) (hq : q ≠ some b) (hr : r ≠ some b) : w'.cell? ⟨b, o, none⟩ = some v := by
  have hb := h.1.block b (block_lt_of_cell hc) (fun e => e.elim (fun e => hq e.symm) (fun e => hr e.symm))
  rw [World.cell?_of_block (w := w) (a := ⟨b, o, none⟩) hb]
  exact hc
set_option maxHeartbeats 1000000 in
theorem new_calls (w : World) : Calls Try.prog 41 #[] w fun e w' => e = .returned (qv (some w.heap.size)) ∧ QB w.heap.size (some w.heap.size) none [] w' ∧ Below w.heap.size w w' := by
  go_enter Try.func41, Try.ntmps41
  go_wp2_with fail
  go_ret
  refine ⟨rfl, ⟨.pointer none, .slice none 0 0, .inl rfl, Nat.le_refl _, heap_new _ _, World.ownsRowF_nil _ _ _ _, rfl⟩, (Below.refl _ _).alloc (Nat.le_refl _) _⟩
set_option maxHeartbeats 1000000 in
theorem bytes_calls (B : Nat) (q r : Option Nat) (l : List UInt8) (w : World) (h : QB B q r l w) :
    Calls Try.prog 44 #[qv q] w fun e w' => e = .returned (.string (if q = none then .empty else ba l)) ∧ QB B q r l w' ∧ QW q r r w w' := by
  cases q with
  | none =>
    have H := Lib.hid h
    clear h
    rw [qv_none]
    go_enter Try.func44, Try.ntmps44
    go_wp2_with fail
    go_ret
    exact ⟨rfl, H.out, QW.refl _ _ _⟩
  | some b =>
    have HL := Lib.hid (string_calls B b r l w h)
    clear h
    rw [qv_some]
    go_enter Try.func44, Try.ntmps44
    go_wp2_with fail
    refine HL.out.mono ?_
    rintro e w1 ⟨rfl, h1, h2⟩
    go_wp2_with fail
    go_ret
    exact ⟨rfl, h1, QW.of_wr h2⟩
def encS (s : ByteArray) : List Value := [.string s]
theorem encS_len (l : List ByteArray) : ∀ x ∈ l, (encS x).length = 1 := fun _ _ => rfl
/-- all the bytes of texts -/
def cat (l : List ByteArray) : List UInt8 := l.flatMap bs
theorem cat_take (l : List ByteArray) (k : Nat) (h : k < l.length) : cat (l.take (k + 1)) = cat (l.take k) ++ bs l[k] := by
  unfold cat
  rw [List.take_succ_eq_append_getElem h, List.flatMap_append]
  simp
theorem cat_take_le (l : List ByteArray) (k : Nat) : (cat (l.take k)).length ≤ (cat l).length := by
  have h : l = l.take k ++ l.drop k := (List.take_append_drop k l).symm
  have h2 : (cat l).length = (cat (l.take k)).length + (cat (l.drop k)).length := by
    conv => lhs; rw [h]
    unfold cat
    rw [List.flatMap_append, List.length_append]
  omega
set_option maxHeartbeats 4000000 in
set_option maxRecDepth 100000 in
theorem raw_calls (B : Nat) (q r : Option Nat) (l : List UInt8) (v : Value) (ss : List ByteArray) (w : World) (h : QB B q r l w) (hs : SL encS 1 w v ss) (hlen : l.length + (cat ss).length ≤ 140737488355328)
    (hap : ∀ A n c, v = .slice A n c → ∀ b o, A = some ⟨b, o, none⟩ → q ≠ some b ∧ r ≠ some b) :
    Calls Try.prog 42 #[qv q, v] w fun e w' => e = .returned (.tuple #[]) ∧ ∃ r', QB B q r' (l ++ cat ss) w' ∧ QW q r r' w w' := by
  obtain ⟨_, hbd, A, c, rfl, hlc, hcm, hex⟩ := hs
  cases q with
  | none =>
    have H := Lib.hid h
    clear h hex
    rw [qv_none]
    go_enter Try.func42, Try.ntmps42
    go_wp2_with fail
    go_loop [4] (fun s4 => s4 = .int .i64 0) (fun _ => 0)
    case atStart => rfl
    case round =>
      obtain rfl := hrel
      go_wp2_with fail
      go_end0
      exact ⟨rfl, r, H.out, QW.refl _ _ _⟩
  | some b =>
    have H := Lib.hid h
    have Hex := Lib.hid hex
    have Hap := Lib.hid (hap A ss.length c rfl)
    clear h hex hap
    rw [qv_some]
    go_enter Try.func42, Try.ntmps42
    go_wp2_with fail
    go_loopw [4] (fun s4 wr => ∃ k : Nat, k ≤ ss.length ∧ s4 = .int .i64 k ∧ Hid (∃ r', QB B (some b) r' (l ++ cat (ss.take k)) wr ∧ QW (some b) r r' w wr)) (fun s4 _ => ss.length - (intOf s4).toNat)
    case atStart => exact ⟨0, by omega, rfl, Lib.hid ⟨r, by simpa [cat] using H.out, QW.refl _ _ _⟩⟩
    case round =>
      obtain ⟨k, hk, rfl, hr⟩ := hrel
      by_cases hkl : k < ss.length
      · obtain ⟨r', hB, hW⟩ := hr.out
        obtain ⟨b0, o0, rfl, hx⟩ := Hex.out (by omega)
        have hcell : w.cell? ⟨b0, o0 + k, none⟩ = some (.string ss[k]) := by
          have := hx k ss[k] (List.getElem?_eq_getElem hkl) 0 (.string ss[k]) rfl
          rwa [Nat.mul_one, Nat.add_zero] at this
        have hcell2 : wr.cell? ⟨b0, o0 + k, none⟩ = some (.string ss[k]) := hW.cell hcell (Hap.out b0 o0 rfl).1 (Hap.out b0 o0 rfl).2
        have hct := cat_take ss k hkl
        have hcl := cat_take_le ss (k + 1)
        have hl1 : (l ++ cat (ss.take k)).length + (ss[k]).size ≤ 140737488355328 := by
          rw [hct, List.length_append, bs_len] at hcl
          rw [List.length_append]
          omega
        have HW := Lib.hid (write_calls B b r' (hc (l ++ cat (ss.take k))) ss[k] wr.drew (BU.keepB hB (Below.refl _ _).drew) (by rw [hc_len]; exact hl1))
        have HB := Lib.hid hB
        have HQ := Lib.hid hW
        have HT := Lib.hid hct
        clear hB hW hx hcell hct hcl hl1 hr
        generalize ss[k] = s at *
        have i1 : ¬ (k : Int) < 0 := by omega
        go_wp2_with fail
        go_still_tail 7, (by kernel_rfl)
        change wpList _ _ _ _ _ wr.drew
        go_wp2_with fail
        refine HW.out.mono ?_
        rintro e w2 ⟨rfl, r2, hB2, hW2⟩
        have HB2 := Lib.hid hB2
        have HW2 := Lib.hid hW2
        clear hB2 hW2
        go_wp2_with fail
        go_roundw
        case rel =>
          refine ⟨k + 1, by omega, by go_num, Lib.hid ⟨r2, ?_, ?_⟩⟩
          · have hb := HB2.out
            rw [HT.out, ← List.append_assoc]
            have e1 : hc (l ++ cat (ss.take k)) ++ hc (bs s) = hc (l ++ cat (ss.take k) ++ bs s) := by simp [hc]
            rw [e1] at hb
            exact hb
          · exact HQ.out.trans ((QW.of_below (Below.refl _ _).drew).trans (QW.of_wr HW2.out))
        case measure => simp [intOf] <;> omega
      · go_wp2_with fail
        go_end0
        obtain ⟨r', hB, hW⟩ := hr.out
        refine ⟨rfl, r', ?_, hW⟩
        rw [List.take_of_length_le (by omega)] at hB
        exact hB
end Go.Proofs.Ytcaocnlchfbeaaa.Buf

/- The walks of chapter 7's Put and Size, and of the document's Put. -/
namespace Go.Proofs.Ytcaocnlchfbeaaa.Num
open Go.RowKit Go.Proofs.Ytcaocnlchfbeaaa.Mk
open Extern.Stop (cell)
theorem Iu8 : (Try.prog.info? 5).map (fun i => (i.zero, i.size, i.bytes)) = some (some (.int .u8 0), 1, 1) := by kernel_rfl
theorem Uu8 : Try.prog.underlying 5 = some (.int .u8) := by kernel_rfl
theorem Ubs : Try.prog.underlying 110 = some (.slice 5) := by kernel_rfl
theorem Ust : Try.prog.underlying 9 = some .string := by kernel_rfl
theorem ret_str {a b : ByteArray} (h : a = b) : Ending.returned (.string a) = .returned (.string b) := by rw [h]
theorem byte_or (y : Nat) : Go.bits .or .u8 ((y : Int) % 256) 128 = ((y % 128 + 128 : Nat) : Int) := by
  rw [show ((y : Int) % 256) = ((y % 256 : Nat) : Int) by omega, show (128 : Int) = ((128 : Nat) : Int) from rfl, u8_or_nat _ _ (Nat.mod_lt _ (by decide)) (by decide)]
  congr 1
  have e : y % 256 = y % 128 ||| (y % 256 / 128 * 128) := by
    rw [Nat.or_comm, nat_join 7 _ _ (by omega) (by omega)]; omega
  have h2 : (y % 256 / 128 * 128) ||| 128 = 128 := by
    have : y % 256 / 128 = 0 ∨ y % 256 / 128 = 1 := by omega
    rcases this with h | h <;> rw [h] <;> rfl
  rw [e, Nat.or_assoc, h2, Nat.or_comm, nat_join 7 _ _ (by decide) (Nat.mod_lt _ (by decide))]
  omega
theorem cell_ofNat (n : Nat) (h : n < 256) : cell (UInt8.ofNat n) = .int .u8 ((n : Nat) : Int) := by
  unfold cell
  rw [UInt8.toNat_ofNat_of_lt' h]
  rfl
set_option maxRecDepth 100000 in
set_option maxHeartbeats 1000000 in
theorem put_calls (x : Nat) (w : World) (hx : x < 18446744073709551616) :
    Calls Try.prog 107 #[.int .u64 x] w fun e w' => e = .returned (.string (ba (putL x))) ∧ Below w.heap.size w w' := by
  obtain ⟨i0, hi, hz0, hz1, hz2⟩ := info_parts Iu8
  have h10 := putL_len10 x hx
  have H10 := Lib.hid h10
  clear h10
  go_enter Try.func107, Try.ntmps107
  go_wp2_with fail
  go_loopw [0, 3] (fun s0 s3 wr => ∃ (y : Nat) (cur : List UInt8), y < 18446744073709551616 ∧ s0 = .int .u64 y ∧ cur.length ≤ 9 ∧ Hid (cur ++ putL y = putL x) ∧ Hid (wr.ownsRow w.heap.size 5 1 s3 cur.length (hc cur)) ∧ Below w.heap.size w wr) (fun i _ _ => (intOf i).toNat)
  case atStart => exact ⟨x, [], hx, rfl, by simp, Lib.hid rfl, Lib.hid (World.ownsRow_nil _ _ _ _), Below.refl _ _⟩
  case round =>
    obtain ⟨y, cur, hy, rfl, hcur, hf, ho, hbw⟩ := hrel
    have hsw := hbw.size
    by_cases hgt : 127 < y
    · have hpl : Hid (cur ++ [UInt8.ofNat (y % 128 + 128)] ++ putL (y / 128) = putL x) := Lib.hid (by rw [← hf.out, putL_more y (by omega)]; simp)
      have hcl : Hid ((cur ++ [UInt8.ofNat (y % 128 + 128)]).length ≤ 9) := Lib.hid (by
        have h1 := congrArg List.length hpl.out
        have h2 := putL_pos (y / 128)
        have h3 := H10.out
        rw [List.length_append] at h1
        omega)
      have HB := Lib.hid (byte_or y)
      go_wp2_with (at_builtin; refine wpList_append_own _ rfl _ _ 110 rfl w.heap.size 5 i0 _ 1 1 Ubs hi hz0 hz1 hz2 rfl (by decide) _ _ _ rfl (ho.out.alloc _) ⟨wr.heap.size, 0, none⟩ 1 1 [.int .u8 (Go.bits .or .u8 ((y : Int) % 256) 128)] rfl ?c1 ?c2 ?c3 ?c4 ?c5 ?c6 ?_)
      case c1 => rfl
      case c2 => exact cell_one_new _ _ _
      case c3 => intro u hu; rw [List.mem_singleton.1 hu]; rfl
      case c4 => simp only [maxLen]; omega
      case c5 => omega
      case c6 => simp; omega
      intro v2 w2 ho2 hg2 _
      have hb5 : Below w.heap.size w w2 := (hbw.alloc (by omega) _).grown hg2 (by simp; omega) (fun k hk => (ho.out.lt k hk).1)
      have Ho2 : Hid (w2.ownsRow w.heap.size 5 1 v2 (cur ++ [UInt8.ofNat (y % 128 + 128)]).length (hc (cur ++ [UInt8.ofNat (y % 128 + 128)]))) := Lib.hid (by
        have e : hc (cur ++ [UInt8.ofNat (y % 128 + 128)]) = hc cur ++ [.int .u8 (Go.bits .or .u8 ((y : Int) % 256) 128)] := by
          rw [HB.out, ← cell_ofNat _ (by omega)]; simp [hc]
        rw [e, List.length_append]
        exact ho2)
      clear ho2 hg2 ho
      go_wp2_with fail
      go_roundw
      case rel => exact ⟨y / 128, _, by omega, by go_num, hcl.out, hpl, Ho2, hb5⟩
      case measure => simp [intOf] <;> omega
    · have hpl : Hid (cur ++ [UInt8.ofNat y] = putL x) := Lib.hid (by rw [← hf.out, putL_one y (by omega)])
      go_wp2_with (at_builtin; refine wpList_append_own _ rfl _ _ 110 rfl w.heap.size 5 i0 _ 1 1 Ubs hi hz0 hz1 hz2 rfl (by decide) _ _ _ rfl (ho.out.alloc _) ⟨wr.heap.size, 0, none⟩ 1 1 [.int .u8 ((y : Int))] rfl ?c1 ?c2 ?c3 ?c4 ?c5 ?c6 ?_)
      case c1 => rfl
      case c2 => exact cell_one_new _ _ _
      case c3 => intro u hu; rw [List.mem_singleton.1 hu]; rfl
      case c4 => simp only [maxLen]; omega
      case c5 => omega
      case c6 => simp; omega
      intro v2 w2 ho2 hg2 _
      have hb5 : Below w.heap.size w w2 := (hbw.alloc (by omega) _).grown hg2 (by simp; omega) (fun k hk => (ho.out.lt k hk).1)
      have Ho2 : w2.ownsRow w.heap.size 5 1 v2 (cur ++ [UInt8.ofNat y]).length (hc (cur ++ [UInt8.ofNat y])) := by
        have e : hc (cur ++ [UInt8.ofNat y]) = hc cur ++ [.int .u8 (y : Int)] := by
          rw [← cell_ofNat _ (by omega)]; simp [hc]
        rw [e, List.length_append]
        exact ho2
      have hcv := run_string_bytes Ubs Uu8 Ust (SB.of_owns Ho2)
      clear ho2 hg2 ho Ho2
      go_wp2_with fail
      go_ret
      exact ⟨ret_str (by rw [hpl.out]), hb5⟩

set_option maxRecDepth 100000 in
set_option maxHeartbeats 1000000 in
theorem byte_calls (m : Int) (w : World) (h0 : 0 ≤ m) (h1 : m < 256) :
    Calls Try.prog 104 #[.int .i64 m] w fun e w' => e = .returned (.string (ba [UInt8.ofNat m.toNat])) ∧ Below w.heap.size w w' := by
  obtain ⟨n, rfl⟩ := Int.eq_ofNat_of_zero_le h0
  have hn : n < 256 := by omega
  rw [Int.toNat_natCast]
  clear h0 h1
  have hSB : SB (w.alloc (.cells #[.int .u8 (n : Int)] 5)) (.slice (some ⟨w.heap.size, 0, none⟩) 1 1) [UInt8.ofNat n] :=
    ⟨by simp [maxLen], some ⟨w.heap.size, 0, none⟩, 1, rfl, Nat.le_refl _, by simp [maxLen], fun _ => ⟨w.heap.size, 0, rfl, fun j u hj => by
      have e : hc [UInt8.ofNat n] = [.int .u8 (n : Int)] := by simp [hc, cell_ofNat n hn]
      rw [e] at hj
      rw [cell_of_row _ _ _ _ _ _ (heap_alloc_last w _)]
      simpa using hj⟩⟩
  have hcv := run_string_bytes (P := Try.prog) Ubs Uu8 Ust hSB
  clear hSB
  go_enter Try.func104, Try.ntmps104
  go_wp2_with fail
  go_ret
  exact ⟨rfl, (Below.refl _ _).alloc (Nat.le_refl _) _⟩

set_option maxRecDepth 100000 in
set_option maxRecDepth 100000 in
set_option maxHeartbeats 1000000 in
theorem rput_calls (x : Nat) : ∀ (w : World), x < 18446744073709551616 →
    Calls Try.prog 76 #[.int .u64 x] w fun e w' => e = .returned (.string (ba (putL x))) ∧ Below w.heap.size w w' := by
  induction x using Nat.strongRecOn with
  | ind x ih =>
    intro w hx
    by_cases h : x < 128
    · have H1 := Lib.hid (putL_one x h)
      clear ih
      go_enter Try.func76, Try.ntmps76
      go_wp2_with fail
      refine (byte_calls x _ (by omega) (by omega)).mono ?_
      rw [Int.toNat_natCast]
      rintro e w1 ⟨rfl, hb1⟩
      go_wp2_with fail
      go_ret
      exact ⟨ret_str (by rw [H1.out]), hb1⟩
    · have H1 := Lib.hid (putL_more x (by omega))
      have Hih := Lib.hid (ih (x / 128) (by omega))
      have h10 := putL_len10 x hx
      rw [H1.out, List.length_cons] at h10
      clear ih
      go_enter Try.func76, Try.ntmps76
      go_wp2_with fail
      refine (byte_calls ((x : Int) % 128 + 128) _ (by omega) (by omega)).mono ?_
      rw [show ((x : Int) % 128 + 128).toNat = x % 128 + 128 by omega]
      generalize hB1 : ba [UInt8.ofNat (x % 128 + 128)] = b1
      have hz1 : b1.size ≤ 1 := by rw [← hB1]; exact Nat.le_refl _
      have HB1 := Lib.hid hB1
      clear hB1
      rintro e w1 ⟨rfl, hb1⟩
      go_wp2_with fail
      refine (Hih.out _ (by omega)).mono ?_
      generalize hB2 : ba (putL (x / 128)) = b2
      have hz2 : b2.size ≤ 9 := by rw [← hB2, ba_size]; omega
      have HB2 := Lib.hid hB2
      clear hB2
      rintro e w2 ⟨rfl, hb2⟩
      go_wp2_with fail
      go_ret
      exact ⟨ret_str (by rw [← HB1.out, ← HB2.out, ba_append, H1.out]; rfl), below_up hb1 hb2⟩
end Go.Proofs.Ytcaocnlchfbeaaa.Num

/- The walks of a Buf's Byte, Num and Text, at a Buf and at nil. -/
namespace Go.Proofs.Ytcaocnlchfbeaaa.Buf
open Go.RowKit Go.Proofs.Ytcaocnlchfbeaaa.Mk
theorem raw_new (B : Nat) (q r : Option Nat) (l : List UInt8) (ss : List ByteArray) (w w2 : World) (g n : Nat) (T : TypeId) (h : QB B q r l w) (hb : Below w.heap.size w w2)
    (hg : w2.heap[g]? = some (.cells (ss.flatMap encS).toArray T (0, 0))) (hgw : w.heap.size ≤ g) (hn : n = ss.length) (hbd : ss.length ≤ 140737488355328) (hlen : l.length + (cat ss).length ≤ 140737488355328) :
    Calls Try.prog 42 #[qv q, .slice (some ⟨g, 0, none⟩) n n] w2 fun e w' => e = .returned (.tuple #[]) ∧ ∃ r', QB B q r' (l ++ cat ss) w' ∧ QW q r r' w w' := by
  subst hn
  have h2 := h.keepB hb
  have hbase := h.base
  refine (raw_calls B q r l _ ss w2 h2 (SL.of_block hg (encS_len _) hbd _ rfl) hlen ?_).mono ?_
  · intro A n c he b o hA
    cases he
    cases hA
    exact ⟨fun e => by have := (hbase.2 g (.inl e.symm)).2; omega, fun e => by have := (hbase.2 g (.inr e.symm)).2; omega⟩
  · rintro e w' ⟨he, r', h3, h4⟩
    exact ⟨he, r', h3, (QW.of_below hb).trans h4⟩
theorem cells_one (s : ByteArray) : (([s] : List ByteArray).flatMap encS).toArray = #[.string s] := rfl
theorem cells_two (s t : ByteArray) : (([s, t] : List ByteArray).flatMap encS).toArray = #[.string s, .string t] := rfl
theorem cat_one (s : ByteArray) : cat [s] = bs s := by simp [cat]
theorem cat_two (s t : ByteArray) : cat [s, t] = bs s ++ bs t := by simp [cat]
set_option maxHeartbeats 2000000 in
theorem bnum_calls (B : Nat) (q r : Option Nat) (l : List UInt8) (x : Nat) (w : World) (h : QB B q r l w) (hx : x < 18446744073709551616) (hlen : l.length + 10 ≤ 140737488355328) :
    Calls Try.prog 82 #[qv q, .int .u64 x] w fun e w' => e = .returned (.tuple #[]) ∧ ∃ r', QB B q r' (l ++ Num.putL x) w' ∧ QW q r r' w w' := by
  have H := Lib.hid h
  have hp := Num.putL_len10 x hx
  have HP := Lib.hid (fun w => Num.put_calls x w hx)
  clear h hx
  generalize Num.putL x = p at *
  generalize hv : qv q = v
  have Hv := Lib.hid hv
  clear hv
  go_enter Try.func82, Try.ntmps82
  go_wp2_with fail
  refine (HP.out _).mono ?_
  rintro e w1 ⟨rfl, hb1⟩
  have HR := Lib.hid (raw_new B q r l [ba p] w (w1.alloc (.cells #[.string (ba p)] 9)) w1.heap.size 1 9 H.out (hb1.alloc hb1.size _) (by rw [cells_one]; exact heap_new _ _) hb1.size rfl (by simp) (by rw [cat_one, bs_ba]; omega))
  rw [cat_one, bs_ba, Hv.out] at HR
  go_wp2_with fail
  refine HR.out.mono ?_
  rintro e w2 ⟨rfl, h2⟩
  have H2 := Lib.hid h2
  clear h2
  go_wp2_with fail
  go_end0
  exact ⟨rfl, H2.out⟩
set_option maxHeartbeats 2000000 in
theorem btext_calls (B : Nat) (q r : Option Nat) (l : List UInt8) (s : ByteArray) (w : World) (h : QB B q r l w) (hlen : l.length + 10 + s.size ≤ 140737488355328) :
    Calls Try.prog 84 #[qv q, .string s] w fun e w' => e = .returned (.tuple #[]) ∧ ∃ r', QB B q r' (l ++ (Num.putL s.size ++ bs s)) w' ∧ QW q r r' w w' := by
  have H := Lib.hid h
  have hx : s.size < 18446744073709551616 := by omega
  have hp := Num.putL_len10 s.size hx
  have HP := Lib.hid (fun w => Num.put_calls s.size w hx)
  clear h hx
  generalize Num.putL s.size = p at *
  generalize hv : qv q = v
  have Hv := Lib.hid hv
  clear hv
  go_enter Try.func84, Try.ntmps84
  go_wp2_with fail
  refine (HP.out _).mono ?_
  rintro e w1 ⟨rfl, hb1⟩
  have HR := Lib.hid (raw_new B q r l [ba p, s] w (w1.alloc (.cells #[.string (ba p), .string s] 9)) w1.heap.size 2 9 H.out (hb1.alloc hb1.size _) (by rw [cells_two]; exact heap_new _ _) hb1.size rfl (by simp) (by rw [cat_two, bs_ba, List.length_append, bs_len]; omega))
  rw [cat_two, bs_ba, Hv.out] at HR
  go_wp2_with fail
  refine HR.out.mono ?_
  rintro e w2 ⟨rfl, h2⟩
  have H2 := Lib.hid h2
  clear h2
  go_wp2_with fail
  go_end0
  exact ⟨rfl, H2.out⟩
end Go.Proofs.Ytcaocnlchfbeaaa.Buf

/- The walk of a Buf's Hash, at a Buf and at nil; the document's Raw. -/
namespace Go.Proofs.Ytcaocnlchfbeaaa.Buf
open Go.RowKit Go.Proofs.Ytcaocnlchfbeaaa.Mk
theorem IH : (Try.prog.info? 35).map (·.size) = some 32 := by kernel_rfl
theorem IHi : (Try.prog.info? 35).map (fun i => (i.zero, i.size, i.bytes)) = some (some (hv (List.replicate 32 0)), 32, 32) := by kernel_rfl
theorem UHs : Try.prog.underlying 39 = some (.slice 35) := by kernel_rfl
theorem UH : Try.prog.underlying 35 = some (.array 32 5) := by kernel_rfl
theorem UB : Try.prog.underlying 5 = some (.int .u8) := by kernel_rfl
theorem IHl {h : List UInt8} (hl : h.length = 32) : (Try.prog.info? 35).map (·.size) = some (hc h).length := by rw [IH, hc_len, hl]
theorem IHa {h : List UInt8} (hl : h.length = 32) : (Try.prog.info? 35).map (·.size) = some (hc h).toArray.size := by rw [IH]; simp [hc_len, hl]
theorem eqH {x y : List UInt8} (hx : x.length = 32) (hy : y.length = 32) : ∀ wx, (binOp .eql 35 (.agg (hc x).toArray) (.agg (hc y).toArray)).run Try.prog wx = .ok (.bool (x == y)) wx :=
  fun wx => run_eql_bytes (P := Try.prog) wx 35 5 32 UH UB Try.sizeOf5 x y hx hy
theorem neH {x y : List UInt8} (hx : x.length = 32) (hy : y.length = 32) : ∀ wx, (binOp .neq 35 (.agg (hc x).toArray) (.agg (hc y).toArray)).run Try.prog wx = .ok (.bool (!(x == y))) wx :=
  fun wx => run_neq_bytes (P := Try.prog) wx 35 5 32 UH UB Try.sizeOf5 x y hx hy
abbrev H := List UInt8
set_option maxHeartbeats 4000000 in
set_option maxRecDepth 100000 in
theorem bhash_calls (B : Nat) (q r : Option Nat) (l : List UInt8) (v : Value) (hs : List H) (w : World) (h : QB B q r l w) (hv : SL hc 32 w v hs) (hlen : l.length + hs.length * 32 ≤ 140737488355328)
    (hap : ∀ A n c, v = .slice A n c → ∀ b o, A = some ⟨b, o, none⟩ → q ≠ some b ∧ r ≠ some b) :
    Calls Try.prog 100 #[qv q, v] w fun e w' => e = .returned (.tuple #[]) ∧ ∃ r', QB B q r' (l ++ hs.flatten) w' ∧ QW q r r' w w' := by
  obtain ⟨hl32, hbd, A, c, rfl, hlc, hcm, hex⟩ := hv
  have HB0 := Lib.hid h
  have Hex := Lib.hid hex
  have Hap := Lib.hid (hap A hs.length c rfl)
  have H32 := Lib.hid hl32
  clear h hex hap hl32
  generalize hv : qv q = v
  have Hv := Lib.hid hv
  clear hv
  go_enter Try.func100, Try.ntmps100
  go_wp2_with fail
  go_loopw [5, 8] (fun _ s8 wr => ∃ k : Nat, k ≤ hs.length ∧ s8 = .int .i64 k ∧ Hid (∃ r', QB B q r' (l ++ (hs.take k).flatten) wr ∧ QW q r r' w wr)) (fun _ s8 _ => hs.length - (intOf s8).toNat)
  case atStart => exact ⟨0, by omega, rfl, Lib.hid ⟨r, by simpa using HB0.out, QW.refl _ _ _⟩⟩
  case round =>
    obtain ⟨k, hk, rfl, hr⟩ := hrel
    by_cases hkl : k < hs.length
    · obtain ⟨r', hB, hW⟩ := hr.out
      obtain ⟨b0, o0, rfl, hx⟩ := Hex.out (by omega)
      have hrange : wr.rangeAt b0 (o0 + k * 32) (hc hs[k]) := fun j u hj => by
        have := hx k hs[k] (List.getElem?_eq_getElem hkl) j u hj
        exact hW.cell this (Hap.out b0 o0 rfl).1 (Hap.out b0 o0 rfl).2
      have hl32 : hs[k].length = 32 := by rw [← hc_len]; exact H32.out _ (List.getElem_mem hkl)
      have hct : (hs.take (k + 1)).flatten = (hs.take k).flatten ++ hs[k] := by
        rw [List.take_succ_eq_append_getElem hkl, List.flatten_append]; simp
      have hcl : (hs.take k).flatten.length = k * 32 := by
        have : ∀ (m : List H), (∀ x ∈ m, x.length = 32) → m.flatten.length = m.length * 32 := by
          intro m
          induction m with
          | nil => intro _; rfl
          | cons x m ih =>
            intro hm
            rw [List.flatten_cons, List.length_append, ih (fun y hy => hm y (by simp [hy])), hm x (by simp), List.length_cons]
            omega
        rw [this _ (fun x hx => by rw [← hc_len]; exact H32.out x (List.mem_of_mem_take hx)), List.length_take]
        rw [Nat.min_eq_left (by omega)]
      have i1 := IHl hl32
      have i3 := IHa hl32
      have HBk := Lib.hid hB
      have HWk := Lib.hid hW
      have HT := Lib.hid hct
      have HL := Lib.hid hl32
      have hlen2 : (l ++ (hs.take k).flatten).length + 32 ≤ 140737488355328 := by rw [List.length_append, hcl]; omega
      clear hB hW hct hl32 hx hcl hr
      generalize hs[k] = x at *
      have hSB : SB (wr.alloc (.cells (hc x).toArray 35)) (.slice (some ⟨wr.heap.size, 0, none⟩) 32 32) x := ⟨by rw [HL.out]; simp [maxLen], some ⟨wr.heap.size, 0, none⟩, 32, by rw [HL.out], by rw [HL.out]; exact Nat.le_refl _, by simp [maxLen], fun _ => ⟨wr.heap.size, 0, rfl, range_row (heap_alloc_last wr _)⟩⟩
      have hcv := run_string_bytes (P := Try.prog) UBs UBy USt hSB
      clear hSB
      have HR := Lib.hid (raw_new B q r' (l ++ (hs.take k).flatten) [ba x] wr ((wr.alloc (.cells (hc x).toArray 35)).alloc (.cells #[.string (ba x)] 9)) (wr.heap.size + 1) 1 9 HBk.out
        (((Below.refl _ _).alloc (Nat.le_refl _) _).alloc (by simp) _) (by rw [cells_one, ← World.size_alloc wr (.cells (hc x).toArray 35)]; exact heap_new _ _) (by omega) rfl (by simp) (by rw [cat_one, bs_ba, HL.out]; exact hlen2))
      rw [cat_one, bs_ba, Hv.out] at HR
      clear hlen2
      go_wp2_with (first | (refine wpList_load_mid rfl 35 _ rfl b0 (o0 + k * 32) rfl (hc x) _ (by assumption) UH rfl (by assumption) ?_) | (refine wpList_store_last rfl 35 _ _ rfl _ (hc x).toArray rfl rfl (by assumption) (by simp [hc_len, HL.out]) (hc_one _) ?_))
      refine HR.out.mono ?_
      rintro e w2 ⟨rfl, h2⟩
      have H2 := Lib.hid h2
      clear h2
      go_wp2_with fail
      go_roundw
      case rel =>
        refine ⟨k + 1, by omega, by go_num, Lib.hid ?_⟩
        obtain ⟨r2, h3, h4⟩ := H2.out
        exact ⟨r2, by rw [HT.out, ← List.append_assoc]; exact h3, HWk.out.trans h4⟩
      case measure => simp [intOf] <;> omega
    · go_wp2_with fail
      go_end0
      obtain ⟨r', hB, hW⟩ := hr.out
      refine ⟨rfl, r', ?_, hW⟩
      rw [List.take_of_length_le (by omega)] at hB
      exact hB
end Go.Proofs.Ytcaocnlchfbeaaa.Buf

/- The walk of the document's Raw: a sum's bytes. -/
namespace Go.Proofs.Ytcaocnlchfbeaaa.Buf
open Go.RowKit Go.Proofs.Ytcaocnlchfbeaaa.Mk
/-- k bytes copied, the others 0 -/
def part (x : H) (k : Nat) : List Value := hc (x.take k) ++ List.replicate (32 - k) (.int .u8 0)
theorem part_len (x : H) (k : Nat) (hx : x.length = 32) (hk : k ≤ 32) : (part x k).length = 32 := by
  unfold part
  rw [List.length_append, hc_len, List.length_take, List.length_replicate]
  omega
theorem part_set (x : H) (k : Nat) (hx : x.length = 32) (hk : k < 32) (h : k < x.length) : (part x k).set k (.int .u8 (x[k].toNat : Int)) = part x (k + 1) := by
  unfold part
  have e1 : hc (x.take (k + 1)) = hc (x.take k) ++ [.int .u8 (x[k].toNat : Int)] := by
    rw [List.take_succ_eq_append_getElem h]
    unfold hc
    rw [List.map_append]
    rfl
  have e2 : List.replicate (32 - k) (Value.int .u8 0) = .int .u8 0 :: List.replicate (32 - (k + 1)) (.int .u8 0) := by
    rw [show 32 - k = (32 - (k + 1)) + 1 by omega, List.replicate_succ]
  have e3 : (hc (x.take k)).length = k := by rw [hc_len, List.length_take]; omega
  rw [e1, e2, List.set_append_right _ _ (by omega), e3]
  simp
theorem part_all (x : H) (hx : x.length = 32) : part x 32 = hc x := by
  unfold part
  rw [List.take_of_length_le (by omega)]
  simp
theorem made_one (z : Value) (n : Nat) : madeCells #[z] n = (List.replicate n z).toArray := by
  apply Array.ext
  · rw [size_madeCells]; simp
  · intro i h1 h2
    simp [madeCells, Nat.mod_one]
theorem made32 (wx : World) : (Instr.makeSlice 110 (.int .i64 32) (.int .i64 32)).run Try.prog wx = .ok (.slice (some ⟨wx.heap.size, 0, none⟩) 32 32) (wx.alloc (.cells (List.replicate 32 (.int .u8 0)).toArray 5)) := by
  obtain ⟨i, hi, hz0, hz1, hz2⟩ := info_parts infoByte
  have := run_make (P := Try.prog) (w := wx) 110 5 i (.int .u8 0) UBs hi hz0 .i64 .i64 32 32 (by decide) (by decide) (by rw [hz2]; decide) (by decide)
  rw [this, hz1]
  have e : madeCells (Value.int .u8 0).cells (Int.toNat 32 * 1) = (List.replicate 32 (.int .u8 0)).toArray := by
    exact made_one (.int .u8 0) 32
  rw [e]
  rfl
set_option maxHeartbeats 4000000 in
set_option maxRecDepth 100000 in
theorem raw03_calls (x : H) (w : World) (hx : x.length = 32) :
    Calls Try.prog 109 #[hv x] w fun e w' => e = .returned (.string (ba x)) ∧ Below w.heap.size w w' := by
  have HX := Lib.hid hx
  have hm := made32
  unfold hv
  clear hx
  go_enter Try.func109, Try.ntmps109
  go_wp2_with fail
  go_loopw [4] (fun s4 wr => ∃ k : Nat, k ≤ 32 ∧ s4 = .int .i64 k ∧ Hid (wr.heap[w.heap.size]? = some (.cells (hc x).toArray 35 (0, 0)) ∧ wr.heap[w.heap.size + 1]? = some (.cells (part x k).toArray 5 (0, 0))) ∧ Below w.heap.size w wr) (fun s4 _ => 32 - (intOf s4).toNat)
  case atStart =>
    refine ⟨0, by omega, rfl, Lib.hid ⟨?_, ?_⟩, ((Below.refl _ _).alloc (Nat.le_refl _) _).alloc (by simp) _⟩
    · exact (Below.heap_alloc _ _ _ (by simp)).trans (heap_new _ _)
    · have := heap_new (w.alloc (.cells (hc x).toArray 35)) (.cells (List.replicate 32 (.int .u8 0)).toArray 5)
      rw [World.size_alloc] at this
      exact this
  case round =>
    obtain ⟨k, hk, rfl, hcs, hbw⟩ := hrel
    by_cases hkl : k < 32
    · have hx := HX.out
      have hcs2 := hcs.out
      have hkx : k < x.length := by omega
      have c1 : wr.cell? ⟨w.heap.size, k, none⟩ = some (.int .u8 (x[k].toNat : Int)) := by
        rw [cell_of_row _ _ _ _ _ _ hcs2.1]
        simp [hc, hkx]
        rfl
      have hpl := part_len x k hx hk
      have c2 : wr.cell? ⟨w.heap.size + 1, k, none⟩ = some (.int .u8 0) := by
        rw [cell_of_row _ _ _ _ _ _ hcs2.2]
        unfold part
        rw [List.getElem?_toArray, List.getElem?_append_right (by rw [hc_len, List.length_take]; omega), List.getElem?_replicate, if_pos (by rw [hc_len, List.length_take]; omega)]
      have f2 : wr.frozen? ⟨w.heap.size + 1, k, none⟩ = false := by simp [World.frozen?, hcs2.2]
      have hnew : Hid ((wr.setCell ⟨w.heap.size + 1, k, none⟩ (.int .u8 (x[k].toNat : Int))).heap[w.heap.size]? = some (.cells (hc x).toArray 35 (0, 0)) ∧ (wr.setCell ⟨w.heap.size + 1, k, none⟩ (.int .u8 (x[k].toNat : Int))).heap[w.heap.size + 1]? = some (.cells (part x (k + 1)).toArray 5 (0, 0))) := Lib.hid ⟨(Below.heap_setCell _ _ _ _ (by simp)).trans hcs2.1, by
        rw [← part_set x k hx hkl hkx]
        simp [World.setCell, Array.getElem?_modify, hcs2.2]⟩
      clear hcs2 hpl hx hcs
      generalize x[k] = c at *
      go_wp2_with fail
      go_roundw
      case rel => exact ⟨k + 1, by omega, by go_num, hnew, hbw.setCell (p := ⟨w.heap.size + 1, k, none⟩) (by simp) _⟩
      case measure => simp [intOf] <;> omega
    · obtain rfl : k = 32 := by omega
      have hs : SB wr (.slice (some ⟨w.heap.size + 1, 0, none⟩) 32 32) x := by
        have h2 := hcs.out.2
        rw [part_all x HX.out] at h2
        exact ⟨by rw [HX.out]; simp [maxLen], some ⟨w.heap.size + 1, 0, none⟩, 32, by rw [HX.out], by rw [HX.out]; exact Nat.le_refl _, by simp [maxLen], fun _ => ⟨w.heap.size + 1, 0, rfl, range_row h2⟩⟩
      have hcv := run_string_bytes (P := Try.prog) UBs UBy USt hs
      clear hs hcs
      go_wp2_with fail
      go_ret
      exact ⟨rfl, hbw⟩
end Go.Proofs.Ytcaocnlchfbeaaa.Buf

/- The walk of chapter 9's law: what a step puts, and what it is by the document. -/
namespace Go.Proofs.Ytcaocnlchfbeaaa.Buf
open Go.RowKit Go.Proofs.Ytcaocnlchfbeaaa.Mk
theorem wpList_buildTwo {P : Program} {ops : Array Oper} {rest : List Oper} {o : Oper} {a : Act} {w : World} {Q : Exit → Act → World → Prop} (hg : o.guard = none) (t e : TypeId) (s : Nat) (x y : Operand) (ho : o.op = .buildSlice t 2 #[(0, x), (1, y)])
    (cs ds : Array Value) (z : Value) (bytes : Nat) (hx : a.eval x = .agg cs) (hy : a.eval y = .agg ds) (hv : cs.size = s) (hv2 : ds.size = s)
    (hi : (P.info? e).map (fun i => (i.zero, i.size, i.bytes)) = some (some z, s, bytes)) (hu : P.underlying t = some (.slice e)) (hs : 0 < s) (hsmall : 2 * s ≤ 16777216)
    (h : wpList P ops Q rest (a.put o.dst (.slice (some ⟨w.heap.size, 0, none⟩) 2 2)) (w.alloc (.cells (cs.toList ++ ds.toList).toArray e))) : wpList P ops Q (o :: rest) a w := by
  refine wpList_buildWhole hg t e 2 s #[(0, x), (1, y)] ho [.agg cs, .agg ds] z bytes (by simp [hx, hy]) (fun v h => by
    simp at h
    rcases h with rfl | rfl
    · exact hv
    · exact hv2) rfl hi hu hs (by decide) hsmall ?_
  simpa [Value.cells] using h
theorem run_load_string {w : World} {p : Addr} {s : ByteArray} (h : w.cell? p = some (.string s)) : (Instr.loadAt 9 (.pointer (some p))).run Try.prog w = .ok (.string s) w := by
  have a9 := Try.isAgg9
  have z9 := Try.sizeOf9
  simp [go_sem, Instr.loadAt, Instr.sureAddr, h, a9, z9]
/-- a step's cells -/
def stepC (k : Int) (s : ByteArray) (n : Nat) (hh : H) : List Value := .int .i64 k :: .string s :: .int .u64 n :: hc hh
def stepV (k : Int) (s : ByteArray) (n : Nat) (hh : H) : Value := .agg (stepC k s n hh).toArray
/-- the bytes that a step puts -/
def doL (k : Int) (s : ByteArray) (n : Nat) (hh : H) : List UInt8 :=
  if k = 1 then bs s ++ bs s else if k = 2 then [UInt8.ofNat (n % 256)] else if k = 3 then Num.putL n else if k = 4 then hh ++ hh else Num.putL s.size ++ bs s
theorem ret_str {a b : ByteArray} (h : a = b) : Ending.returned (.string a) = .returned (.string b) := by rw [h]
end Go.Proofs.Ytcaocnlchfbeaaa.Buf

/- The walks of chapter 9's laws: the example, the bound, a step. -/
namespace Go.Proofs.Ytcaocnlchfbeaaa.Buf
open Go.RowKit Go.Proofs.Ytcaocnlchfbeaaa.Mk
/-- a step -/
structure St where
  k : Int
  s : ByteArray
  n : Nat
  h : H
instance : Inhabited St := ⟨⟨0, .empty, 0, []⟩⟩
def St.c (x : St) : List Value := stepC x.k x.s x.n x.h
def St.v (x : St) : Value := .agg x.c.toArray
def St.l (x : St) : List UInt8 := doL x.k x.s x.n x.h
/-- a step that can be: 64 bits, 32 bytes -/
def St.Ok (x : St) : Prop := x.n < 18446744073709551616 ∧ x.h.length = 32 ∧ x.s.size ≤ 9223372036854775807
theorem St.c_len (x : St) (h : x.Ok) : x.c.length = 35 := by unfold St.c stepC; simp [hc_len, h.2.1]
theorem St.l_len (x : St) (h : x.Ok) : x.l.length ≤ 2 * x.s.size + 74 := by
  have h1 := Num.putL_len10 x.n h.1
  unfold St.l doL
  split
  · simp [bs_len]; omega
  split
  · simp
  split
  · omega
  split
  · rw [List.length_append, h.2.1]; omega
  · have h2 := Num.putL_len10 x.s.size (by have := h.2.2; omega)
    rw [List.length_append, bs_len]; omega
/-- two Bufs whose blocks are apart -/
def Apart (b z : Nat) (rb rz : Option Nat) : Prop := b ≠ z ∧ rb ≠ some z ∧ rz ≠ some b ∧ ∀ g, rb = some g → rz ≠ some g
theorem Apart.symm {b z : Nat} {rb rz : Option Nat} (h : Apart b z rb rz) : Apart z b rz rb := ⟨fun e => h.1 e.symm, h.2.2.1, h.2.1, fun g hg e => h.2.2.2 g e hg⟩
theorem Apart.step {B B2 b z : Nat} {rb rb' rz : Option Nat} {lb lz : List UInt8} {w w' : World} (ha : Apart b z rb rz) (_hb : QB B (some b) rb lb w) (hz : QB B2 (some z) rz lz w) (hw : QW (some b) rb rb' w w') : QB B2 (some z) rz lz w' ∧ Apart b z rb' rz := by
  constructor
  · refine BU.keep hz hw.1 ?_ ?_
    · rintro (e | e)
      · exact ha.1 (Option.some.inj e).symm
      · exact ha.2.1 e.symm
    · intro g hg
      rintro (e | e)
      · exact ha.2.2.1 (by rw [hg, e])
      · exact ha.2.2.2 g e.symm hg
  · rcases hw.2 with e | ⟨g, e, hg⟩
    · rw [e]; exact ha
    · have h1 := BU.lt hz
      refine ⟨ha.1, by rw [e]; intro e2; cases e2; omega, ha.2.2.1, ?_⟩
      intro g2 hg2 hrz
      subst hrz
      have h2 := BU.row hz
      rw [e] at hg2
      cases hg2
      omega
theorem QB.weaken {B B' : Nat} {q r : Option Nat} {l : List UInt8} {w : World} (h : QB B q r l w) (hb : B' ≤ B) : QB B' q r l w := by
  cases q with
  | none => exact ⟨h.1, Nat.le_trans hb h.2⟩
  | some b =>
    obtain ⟨p, v, h1, h2, h3, h4, h5⟩ := h
    refine ⟨p, v, h1, Nat.le_trans hb h2, h3, ⟨h4.1, ?_⟩, h5⟩
    rcases h4.2 with h6 | ⟨g, cap, cur, fz, e1, e2, e3⟩
    · exact .inl h6
    · exact .inr ⟨g, cap, cur, fz, e1, Nat.le_trans hb e2, e3⟩
/-- how many bytes of text steps have -/
def sizes (l : List St) : Nat := (l.map (·.s.size)).sum
theorem sizes_take (l : List St) (k : Nat) (h : k < l.length) : sizes (l.take (k + 1)) = sizes (l.take k) + l[k].s.size := by
  unfold sizes
  rw [List.take_succ_eq_append_getElem h, List.map_append, List.sum_append]
  simp
def Much (l : List St) (w : World) (e : Ending) (w' : World) : Prop := (∃ b, e = .returned (.bool b) ∧ (b = false → l.length ≤ 100 ∧ sizes l ≤ 5000)) ∧ Below w.heap.size w w'
/-- what the first k steps put -/
def allL (l : List St) (k : Nat) : List UInt8 := (l.take k).flatMap St.l
theorem allL_succ (l : List St) (k : Nat) (h : k < l.length) : allL l (k + 1) = allL l k ++ l[k].l := by
  unfold allL
  rw [List.take_succ_eq_append_getElem h, List.flatMap_append]
  simp
theorem allL_len (l : List St) (hok : ∀ x ∈ l, x.Ok) : ∀ k, k ≤ l.length → (allL l k).length ≤ 2 * sizes (l.take k) + 74 * k := by
  intro k
  induction k with
  | zero => intro _; simp [allL]
  | succ k ih =>
    intro hk
    have h1 := ih (by omega)
    have h2 := St.l_len l[k] (hok _ (List.getElem_mem _))
    rw [allL_succ l k (by omega), List.length_append, sizes_take l k (by omega)]
    omega
theorem sizes_take_le (l : List St) (k : Nat) : sizes (l.take k) ≤ sizes l := by
  have h : sizes l = sizes (l.take k) + sizes (l.drop k) := by
    unfold sizes
    conv => lhs; rw [← List.take_append_drop k l]
    rw [List.map_append, List.sum_append]
  omega
theorem size_le (l : List St) (k : Nat) (h : k < l.length) : l[k].s.size ≤ sizes l := by
  have h1 := sizes_take l k h
  have h2 := sizes_take_le l (k + 1)
  omega
end Go.Proofs.Ytcaocnlchfbeaaa.Buf
