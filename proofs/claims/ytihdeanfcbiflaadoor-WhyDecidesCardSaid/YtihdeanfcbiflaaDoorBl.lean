import Derived.Lib.FrozenHead
import Derived.Lib.FrozenHead2
import Derived.Lib.UnsafeStr
import Derived.Test.YtihdeanfcbiflaaDoorBut
import Derived.Test.YtihdeanfcbiflaaDoorProg
import Derived.BigRegion
/- The builder inside a Buf: what it holds, and what else a write leaves alone. -/
namespace Go.Proofs.YtihdeanfcbiflaaDoor.Vb
open Go.RowKit Go.Proofs.YtihdeanfcbiflaaDoor.Mk
/-- block b holds a Buf with the bytes l; r: the block of its row; both lie from B on -/
def BU (B b : Nat) (r : Option Nat) (l : List Value) (w : World) : Prop :=
  ∃ p v, (p = .pointer none ∨ p = .pointer (some ⟨b, 0, none⟩)) ∧ B ≤ b ∧ w.heap[b]? = some (.cells #[p, v] 64 (0, 0)) ∧
    w.ownsRowF B 5 1 v l.length l ∧ v.ownBlock = r
theorem BU.lt {B b : Nat} {r : Option Nat} {l : List Value} {w : World} (h : BU B b r l w) : b < w.heap.size ∧ B ≤ b := by
  obtain ⟨p, v, _, hB, hb, _⟩ := h
  exact ⟨(Array.getElem?_eq_some_iff.1 hb).1, hB⟩
theorem BU.row {B b g : Nat} {l : List Value} {w : World} (h : BU B b (some g) l w) : g < w.heap.size ∧ B ≤ g := by
  obtain ⟨p, v, _, hB, hb, ho, hr⟩ := h
  have := ho.lt g hr
  exact ⟨this.2, this.1⟩
theorem BU.ne {B b : Nat} {r : Option Nat} {l : List Value} {w : World} (h : BU B b r l w) : r ≠ some b := by
  obtain ⟨p, v, _, hB, hb, ho, hr⟩ := h
  rw [← hr]
  exact Lib.ownBlock_neF ho hb (by decide)
/-- it lies on wherever its two blocks lie on -/
theorem BU.keep {S : Nat → Prop} {B b : Nat} {r : Option Nat} {l : List Value} {w w' : World} (h : BU B b r l w) (hk : But S w w') (hb : ¬ S b) (hr : ∀ g, r = some g → ¬ S g) : BU B b r l w' := by
  have hlt := h.lt
  obtain ⟨p, v, hp, hB, hh, ho, hv⟩ := h
  refine ⟨p, v, hp, hB, (hk.block b hlt.1 hb).trans hh, ⟨ho.1, ?_⟩, hv⟩
  rcases ho.2 with h1 | ⟨g, cap, cur, fz, h1, h2, h3, h4⟩
  · exact .inl h1
  · refine .inr ⟨g, cap, cur, fz, h1, h2, ?_, h4⟩
    have hg : r = some g := by rw [← hv, h1]; rfl
    rw [hk.block g (Array.getElem?_eq_some_iff.1 h3).1 (hr g hg)]
    exact h3
theorem BU.keepB {B b : Nat} {r : Option Nat} {l : List Value} {w w' : World} (h : BU B b r l w) (hk : Below w.heap.size w w') : BU B b r l w' :=
  h.keep (But.of_below (S := fun _ => False) hk) (fun e => e) (fun _ _ e => e)
/-- what a write to a Buf may turn: its block, its row; and where its row lies behind -/
def Wr (b : Nat) (r r' : Option Nat) (w w' : World) : Prop := But (fun k => k = b ∨ some k = r) w w' ∧ (r' = r ∨ ∃ k, r' = some k ∧ w.heap.size ≤ k)
theorem Wr.refl (b : Nat) (r : Option Nat) (w : World) : Wr b r r w w := ⟨But.refl _ _, .inl rfl⟩
theorem Wr.trans {b : Nat} {r1 r2 r3 : Option Nat} {w1 w2 w3 : World} (h : Wr b r1 r2 w1 w2) (k : Wr b r2 r3 w2 w3) : Wr b r1 r3 w1 w3 := by
  refine ⟨h.1.trans k.1 ?_, ?_⟩
  · intro i hi hs
    rcases hs with hs | hs
    · exact .inl hs
    · rcases h.2 with e | ⟨g, e, hg⟩
      · exact .inr (by rw [← e]; exact hs)
      · rw [e] at hs
        cases hs
        omega
  · rcases k.2 with e | ⟨g, e, hg⟩
    · rw [e]; exact h.2
    · exact .inr ⟨g, e, Nat.le_trans h.1.size hg⟩
theorem Wr.of_below {b : Nat} {r : Option Nat} {w w' : World} (h : Below w.heap.size w w') : Wr b r r w w' := ⟨But.of_below h, .inl rfl⟩
theorem Wr.below {B b : Nat} {r r' : Option Nat} {l : List Value} {w w' : World} (h : Wr b r r' w w') (hb : BU B b r l w) : Below B w w' :=
  h.1.below (by have := hb.lt; omega) (fun i hi => by
    rcases hi with rfl | hi
    · exact hb.lt.2
    · subst hi; exact hb.row.2)
/-- another Buf lies on -/
theorem BU.other {B b B2 b2 : Nat} {r r2 r2' : Option Nat} {l l2 : List Value} {w w' : World} (h : BU B b r l w) (_h2 : BU B2 b2 r2 l2 w) (hw : Wr b2 r2 r2' w w') (hne : b ≠ b2) (hr : r2 ≠ some b) (hrb : r ≠ some b2) (hrr : r = none ∨ r ≠ r2) : BU B b r l w' :=
  h.keep hw.1 (fun e => e.elim hne (fun e => hr e.symm)) (fun g hg e => e.elim (fun e => hrb (by rw [hg, e])) (fun e => by
    rcases hrr with h0 | h0
    · rw [h0] at hg; cases hg
    · exact h0 (by rw [hg, e])))
end Go.Proofs.YtihdeanfcbiflaaDoor.Vb

/- The walks of the builder's copy check, WriteString and Len, at a Buf. -/
namespace Go.Proofs.YtihdeanfcbiflaaDoor.Vb
open Go.RowKit Go.Proofs.YtihdeanfcbiflaaDoor.Mk
theorem infoByte : (Tryd.prog.info? 5).map (fun i => (i.zero, i.size, i.bytes)) = some (some (.int .u8 0), 1, 1) := by kernel_rfl
theorem sizeBld : (Tryd.prog.info? 64).map (·.size) = some 2 := by kernel_rfl
theorem liesBld : liesAt Tryd.prog Tryd.prog.depth 64 (2 / Tryd.prog.cellsOf 64) 0 64 1 = true := by kernel_rfl
theorem UBy : Tryd.prog.underlying 5 = some (.int .u8) := by kernel_rfl
theorem UBs : Tryd.prog.underlying 62 = some (.slice 5) := by kernel_rfl
theorem USt : Tryd.prog.underlying 9 = some .string := by kernel_rfl
theorem UPb : Tryd.prog.underlying 61 = some (.pointer 64) := by kernel_rfl
theorem UUp : Tryd.prog.underlying 90 = some .unsafePointer := by kernel_rfl
theorem shape_buf {b : Nat} {p v : Value} {w : World} (hb : w.heap[b]? = some (.cells #[p, v] 64 (0, 0))) : w.shape? b = some (64, 2) := by simp [World.shape?, hb]
set_option maxHeartbeats 1000000 in
set_option maxRecDepth 100000 in
theorem check_fresh (b : Nat) (v : Value) (w : World) (hb : w.heap[b]? = some (.cells #[.pointer none, v] 64 (0, 0))) :
    Calls Tryd.prog 43 #[.pointer (some ⟨b, 0, none⟩)] w fun e w' => e = .returned (.tuple #[]) ∧ w' = w.setCell ⟨b, 0, none⟩ (.pointer (some ⟨b, 0, none⟩)) := by
  obtain ⟨j, hj, hjs⟩ := Option.map_eq_some_iff.1 sizeBld
  have hsh := shape_buf hb
  have h0 : w.cell? ⟨b, 0, none⟩ = some (.pointer none) := by rw [Lib.cell_of_heap hb]; rfl
  have hfz : w.frozen? ⟨b, 0, none⟩ = false := Lib.frozen_of_heap hb 0
  have Hsh := Lib.hid hsh
  have Hj := Lib.hid hj
  have Hjs := Lib.hid hjs
  clear hsh hj hjs hb
  go_enter Tryd.func43, Tryd.ntmps43
  go_wp2_with fail
  rw [Lib.run_to_unsafe w ⟨b, 0, none⟩ UPb UUp Hj.out (by rw [Hjs.out]; decide) Hsh.out (Nat.zero_lt_succ 1)]
  simp only [Result.andThen]
  rw [Oper.upon_value]
  go_wp2_with fail
  rw [run_callFunc_extern Tryd.func52 (by kernel_rfl) (by kernel_rfl) (by kernel_rfl) (e := Extern.AbiNoEscape.same) (by kernel_rfl)]
  rw [Lib.run_noEscape]
  simp only [Result.andThen]
  rw [Oper.upon_value]
  go_wp2_with fail
  rw [Lib.run_from_unsafe w ⟨b, 0, none⟩ UUp UPb Hj.out Hsh.out liesBld]
  simp only [Result.andThen]
  rw [Oper.upon_value]
  go_wp2_with fail
  go_end0
  exact ⟨rfl, rfl⟩
set_option maxHeartbeats 1000000 in
theorem check_used (b : Nat) (v : Value) (w : World) (hb : w.heap[b]? = some (.cells #[.pointer (some ⟨b, 0, none⟩), v] 64 (0, 0))) :
    Calls Tryd.prog 43 #[.pointer (some ⟨b, 0, none⟩)] w fun e w' => e = .returned (.tuple #[]) ∧ w' = w := by
  obtain ⟨j, hj, hjs⟩ := Option.map_eq_some_iff.1 sizeBld
  have h0 : w.cell? ⟨b, 0, none⟩ = some (.pointer (some ⟨b, 0, none⟩)) := by rw [Lib.cell_of_heap hb]; rfl
  have hne : ∀ wx, (binOp .neq 61 (.pointer (some ⟨b, 0, none⟩)) (.pointer (some ⟨b, 0, none⟩))).run Tryd.prog wx = .ok (.bool false) wx := fun wx => Lib.run_neq_ptr_same wx ⟨b, 0, none⟩ UPb hj
  clear hb hj hjs
  go_enter Tryd.func43, Tryd.ntmps43
  go_wp2_with fail
  go_end0
  exact ⟨rfl, rfl⟩
theorem check_calls (B b : Nat) (r : Option Nat) (l : List Value) (w : World) (h : BU B b r l w) :
    Calls Tryd.prog 43 #[.pointer (some ⟨b, 0, none⟩)] w fun e w' => e = .returned (.tuple #[]) ∧
      ∃ v, w'.heap[b]? = some (.cells #[.pointer (some ⟨b, 0, none⟩), v] 64 (0, 0)) ∧ w'.ownsRowF B 5 1 v l.length l ∧ v.ownBlock = r ∧ Wr b r r w w' := by
  have hne := h.ne
  obtain ⟨p, v, hp, hB, hb, ho, hr⟩ := h
  rcases hp with rfl | rfl
  · refine (check_fresh b v w hb).mono ?_
    rintro e w' ⟨rfl, rfl⟩
    refine ⟨rfl, v, ?_, ?_, hr, (But.refl _ w).setCell (p := ⟨b, 0, none⟩) (.inl rfl) _, .inl rfl⟩
    · simp [World.setCell, Array.getElem?_modify, hb]
    · exact ho.kept (row := some b) ⟨rfl, rfl, rfl, by simp [World.setCell], fun k _ hk => Below.heap_setCell _ _ _ _ (fun e => hk (by simp [e]))⟩ (.inr (by rw [hr]; exact hne))
  · refine (check_used b v w hb).mono ?_
    rintro e w' ⟨rfl, rfl⟩
    exact ⟨rfl, v, hb, ho, hr, Wr.refl _ _ _⟩
/-- an append of a string: where the row lies behind -/
theorem append_string (w : World) (B : Nat) (i : TypeInfo) (hi : Tryd.prog.info? 5 = some i) (hz : i.zero = some (.int .u8 0)) (h1 : i.size = 1) (h2 : i.bytes = 1) (v : Value) (n : Nat) (l : List Value) (ho : w.ownsRowF B 5 1 v n l) (s : ByteArray) (ty : TypeId)
    (hlen : n + s.size ≤ 140737488355328) (hB : B ≤ w.heap.size) :
    ∃ v' w', (Builtin.append_ #[62, 9] ty #[v, .string s]).run Tryd.prog w = .ok v' w' ∧ w'.ownsRowF B 5 1 v' (n + s.size) (l ++ hc (bs s)) ∧ w.grownBy w' v.ownBlock ∧
      (v'.ownBlock = v.ownBlock ∨ ∃ k, v'.ownBlock = some k ∧ w.heap.size ≤ k) ∧ ∃ A c, v' = .slice A (n + s.size) c := by
  have h63 : n + s.size ≤ maxLen := by unfold maxLen; omega
  obtain ⟨v', w', hr, q2, q3, q4⟩ := Lib.run_append_own_stringF (P := Tryd.prog) w B 62 9 ty 5 i UBs USt hi hz h1 h2 v n l ho s h63 hlen hB
  refine ⟨v', w', hr, q2, q3, ?_, ?_⟩
  · rcases ho.2 with ⟨rfl, rfl⟩ | ⟨g, cap, cur, fz, rfl, hbg, hg, hfz, hnc, hcm, hcs, htake⟩
    · have ho' : w.ownsRowF w.heap.size 5 1 (.slice none 0 0) 0 l := ⟨ho.1, .inl ⟨rfl, rfl⟩⟩
      obtain ⟨v2, w2, hr2, p2, p3, p4⟩ := Lib.run_append_own_stringF (P := Tryd.prog) w w.heap.size 62 9 ty 5 i UBs USt hi hz h1 h2 _ 0 l ho' s h63 hlen (Nat.le_refl _)
      rw [hr] at hr2
      cases hr2
      cases hv : v'.ownBlock with
      | none => exact .inl rfl
      | some k => exact .inr ⟨k, rfl, (p2.lt k hv).1⟩
    · by_cases hroom : n + s.size ≤ cap
      · have := Lib.run_append_room_stringF (P := Tryd.prog) w 62 9 ty 5 i UBs USt hi h1 g n cap cur fz hg (by simpa using hfz) s hroom (by simp at hcs; omega)
        rw [hr] at this
        cases this
        exact .inl rfl
      · have hxl : l.length = n := by simpa using ho.1
        have := Lib.run_append_grow_string (P := Tryd.prog) w 62 9 ty 5 i (.int .u8 0) UBs USt hi hz ⟨g, 0, none⟩ n cap l (by rw [h1]; simpa using hxl) (ho.cells rfl) s (by omega) (by omega) (by rw [h2]; exact growslice_fits (by omega) (by omega))
        rw [hr] at this
        cases this
        exact .inr ⟨w.heap.size, rfl, Nat.le_refl _⟩
  · rcases q2.2 with ⟨e1, e2⟩ | ⟨g, cap, cur, fz, e1, _⟩
    · exact ⟨none, 0, by rw [e1, e2]⟩
    · exact ⟨_, _, e1⟩
end Go.Proofs.YtihdeanfcbiflaaDoor.Vb

/- The walks of the builder's WriteString, Len and String, at a Buf. -/
namespace Go.Proofs.YtihdeanfcbiflaaDoor.Vb
open Go.RowKit Go.Proofs.YtihdeanfcbiflaaDoor.Mk
theorem grownBy_setCell1 (w : World) (b : Nat) (v : Value) : w.grownBy (w.setCell ⟨b, 1, none⟩ v) (some b) :=
  ⟨rfl, rfl, rfl, by simp [World.setCell], fun k _ hk => Below.heap_setCell _ _ _ _ (fun e => hk (by simp [e]))⟩
theorem wpList_append_run {P : Program} {ops : Array Oper} {rest : List Oper} {o : Oper} {a : Act} {w : World} {Q : Exit → Act → World → Prop} (hgd : o.guard = none) (sl x : Operand) (t u : TypeId)
    (ho : o.op = .call { callee := .builtin .append, args := #[sl, x], argTypes := #[t, u] }) (v sv v' : Value) (w' : World) (hs : a.eval sl = v) (hx : a.eval x = sv)
    (hrun : (Builtin.append_ #[t, u] o.type #[v, sv]).run P w = .ok v' w') (h : wpList P ops Q rest (a.put o.dst v') w') : wpList P ops Q (o :: rest) a w := by
  refine wpList_plain hgd fun K hK => ?_
  unfold Oper.wp execOp
  simp only [ho, resolve, invoke, builtin, Sem.run_bind, Sem.run_pure, Result.andThen_ok, List.map_toArray, List.map_cons, List.map_nil, hs, hx, hrun]
  exact hK _ _ h
set_option maxHeartbeats 2000000 in
theorem write_calls (B b : Nat) (r : Option Nat) (l : List Value) (s : ByteArray) (w : World) (h : BU B b r l w) (hlen : l.length + s.size ≤ 140737488355328) :
    Calls Tryd.prog 23 #[.pointer (some ⟨b, 0, none⟩), .string s] w fun e w' => e = .returned (.tuple #[.int .i64 s.size, .nilIface]) ∧ ∃ r', BU B b r' (l ++ hc (bs s)) w' ∧ Wr b r r' w w' := by
  obtain ⟨i0, hi, hz0, hz1, hz2⟩ := info_parts infoByte
  have hBw : B ≤ w.heap.size := by have := h.lt; omega
  have hne := h.ne
  have HC := Lib.hid (check_calls B b r l w h)
  have hBb := h.lt
  clear h
  go_enter Tryd.func23, Tryd.ntmps23
  go_wp2_with fail
  refine HC.out.mono ?_
  rintro e w1 ⟨rfl, v, hbk, ho, hr, hw1⟩
  have c0 : w1.cell? ⟨b, 0, none⟩ = some (.pointer (some ⟨b, 0, none⟩)) := by rw [Lib.cell_of_heap hbk]; rfl
  have c1 : w1.cell? ⟨b, 1, none⟩ = some v := by rw [Lib.cell_of_heap hbk]; rfl
  obtain ⟨v', w2, hrun, q2, q3, q4, A', c', rfl⟩ := append_string w1 B i0 hi hz0 hz1 hz2 v l.length l ho s 62 hlen (Nat.le_trans hBw hw1.1.size)
  have hlt : b < w1.heap.size := (Array.getElem?_eq_some_iff.1 hbk).1
  have hb2 : w2.heap[b]? = some (.cells #[.pointer (some ⟨b, 0, none⟩), v] 64 (0, 0)) := by
    rw [q3.block b hlt (fun e => hne (by rw [← hr, ← e]))]
    exact hbk
  have d1 : w2.cell? ⟨b, 1, none⟩ = some v := by rw [Lib.cell_of_heap hb2]; rfl
  have f1 : w2.frozen? ⟨b, 1, none⟩ = false := Lib.frozen_of_heap hb2 1
  have Hne := Lib.hid hne
  have Hr := Lib.hid hr
  have Hbk := Lib.hid hbk
  have Hb2 := Lib.hid hb2
  have Q := Lib.hid (And.intro q2 (And.intro q3 q4))
  have Hrun := Lib.hid hrun
  clear hne hr hbk hb2 q2 q3 q4 hi hz0 hz1 hz2 hrun
  go_wp2_with (at_builtin; refine wpList_append_run rfl _ _ _ _ rfl v (.string s) _ w2 rfl rfl Hrun.out ?_)
  go_ret2
  obtain ⟨q2, q3, q4⟩ := Q.out
  have q5 := q4
  rw [Hr.out] at q5
  refine ⟨rfl, (Value.slice A' (l.length + s.size) c').ownBlock, ⟨_, _, .inr rfl, hBb.2, ?_, ?_, rfl⟩, hw1.trans ⟨?_, ?_⟩⟩
  · have hb3 := Hb2.out
    show (w2.setCell ⟨b, 1, none⟩ (.slice A' (l.length + s.size) c')).heap[b]? = _
    simp [World.setCell, Array.getElem?_modify, hb3]
  · have hl : (l ++ hc (bs s)).length = l.length + s.size := by rw [List.length_append, hc_len, bs_len]
    rw [hl]
    exact q2.kept (grownBy_setCell1 w2 b _) (.inr (Lib.ownBlock_neF q2 Hb2.out (by decide)))
  · exact ((But.refl _ w1).grown q3 (fun k _ hk => .inr (by rw [← Hr.out, hk]))).setCell (p := ⟨b, 1, none⟩) (.inl rfl) _
  · exact q5
theorem UPy : Tryd.prog.underlying 85 = some (.pointer 5) := by kernel_rfl
theorem cellsByte : Tryd.prog.cellsOf 5 = 1 := by kernel_rfl
theorem hc_byte (l : List UInt8) : hc l = Lib.byteCells l := rfl
theorem freeze_but {S : Nat → Prop} {w : World} (g n : Nat) (hS : S g) : But S w (w.freeze ⟨g, 0, none⟩ n) := by
  have hb := Lib.below_freeze (B := 0) (Below.refl 0 w) (p := ⟨g, 0, none⟩) (Nat.zero_le _) n
  refine ⟨hb.os, hb.tape, hb.output, hb.size, fun k _ hk => ?_⟩
  unfold World.freeze
  split
  · rfl
  · simp only [Array.getElem?_modify]
    rw [if_neg (fun e => hk (by rw [← e]; exact hS))]
set_option maxHeartbeats 4000000 in
set_option maxRecDepth 100000 in
theorem string_some (B b g cap : Nat) (p : Value) (l : List UInt8) (cur : Array Value) (fz : Nat × Nat) (w : World) (hp : p = .pointer none ∨ p = .pointer (some ⟨b, 0, none⟩)) (hB : B ≤ b)
    (hb : w.heap[b]? = some (.cells #[p, .slice (some ⟨g, 0, none⟩) l.length cap] 64 (0, 0))) (ho : w.ownsRowF B 5 1 (.slice (some ⟨g, 0, none⟩) l.length cap) l.length (hc l))
    (hg : w.heap[g]? = some (.cells cur 5 fz)) (hn : l.length ≤ cap) (hcm : cap ≤ maxLen) (hcs : cur.size = cap) (h0 : l ≠ []) :
    Calls Tryd.prog 26 #[.pointer (some ⟨b, 0, none⟩)] w fun e w' => e = .returned (.string (ba l)) ∧ BU B b (some g) (hc l) w' ∧ Wr b (some g) (some g) w w' := by
  have hl0 : l.length ≠ 0 := by simpa using h0
  have c1 : w.drew.cell? ⟨b, 1, none⟩ = some (.slice (some ⟨g, 0, none⟩) l.length cap) := by
    have : w.drew.heap[b]? = some (.cells #[p, .slice (some ⟨g, 0, none⟩) l.length cap] 64 (0, 0)) := hb
    rw [Lib.cell_of_heap this]; rfl
  have hSD : (Builtin.unsafeSliceData_ #[62] 85 #[.slice (some ⟨g, 0, none⟩) l.length cap]).run Tryd.prog w.drew = .ok (.pointer (some ⟨g, 0, none⟩)) w.drew :=
    Lib.run_unsafeSliceData_row _ _ _ _ _ _ (by omega)
  have hUS : (Builtin.unsafeString_ #[85, 3] 9 #[.pointer (some ⟨g, 0, none⟩), .int .i64 l.length]).run Tryd.prog w.drew = .ok (.string (ba l)) (w.drew.freeze ⟨g, 0, none⟩ l.length) := by
    refine Lib.run_unsafeString_row w.drew 85 3 9 5 UPy cellsByte g cur.size (by have hg' : w.drew.heap[g]? = some (.cells cur 5 fz) := hg; simp [World.shape?, hg']) l h0 (by omega) (by unfold maxLen at hcm; omega) ?_
    intro j x hx
    exact ho.cells (g := g) rfl j (.int .u8 x.toNat) (by rw [hc_byte]; simp [Lib.byteCells, hx])
  have hne : (Value.slice (some ⟨g, 0, none⟩) l.length cap).ownBlock ≠ some b := Lib.ownBlock_neF ho hb (by decide)
  have hkeep : BU B b (some g) (hc l) (w.drew.freeze ⟨g, 0, none⟩ l.length) := by
    have hA : Lib.BuilderAtF 64 5 B b p (Lib.byteCells l) w.drew := ⟨hB, _, hb, by rw [Lib.byteCells_length]; exact ho, hne⟩
    have hF := hA.froze (g := g) (cap := cap) (by rw [Lib.byteCells_length]; exact c1)
    rw [Lib.byteCells_length] at hF
    obtain ⟨_, v, hv1, hv2, hv3⟩ := hF
    have hvb : (w.drew.freeze ⟨g, 0, none⟩ l.length).heap[b]? = w.heap[b]? := by
      refine (freeze_but (S := fun k => k = g) (w := w.drew) g l.length rfl).block b (Array.getElem?_eq_some_iff.1 hb).1 (fun e => hne (by rw [e]; rfl))
    rw [hvb, hb] at hv1
    cases hv1
    exact ⟨p, _, hp, hB, hvb.trans hb, hv2, rfl⟩
  have hwr : Wr b (some g) (some g) w (w.drew.freeze ⟨g, 0, none⟩ l.length) :=
    ⟨But.trans (S := fun k => k = b ∨ some k = some g) (S' := fun k => k = b ∨ some k = some g) (b := w.drew) ⟨rfl, rfl, rfl, Nat.le_refl _, fun _ _ _ => rfl⟩ (freeze_but g l.length (.inr rfl)) (fun _ _ e => e), .inl rfl⟩
  clear hb ho hg hn hcm hcs h0 hne hp
  have Hk := Lib.hid hkeep
  have Hw := Lib.hid hwr
  have L0 := Lib.hid hl0
  clear hkeep hwr hl0
  go_enter Tryd.func26, Tryd.ntmps26
  go_wp2_with fail
  go_region
  all_goals (go_wp2_with fail; go_ret; exact ⟨rfl, Hk.out, Hw.out⟩)
theorem string_nil_run (W : World) (q : Option Addr) : (Builtin.unsafeString_ #[85, 3] 9 #[.pointer q, .int .i64 0]).run Tryd.prog W = .ok (.string .empty) W := Lib.run_unsafeString_none W _ _ _ q
theorem drew_wr (b : Nat) (r : Option Nat) (w : World) : Wr b r r w w.drew := ⟨⟨rfl, rfl, rfl, Nat.le_refl _, fun _ _ _ => rfl⟩, .inl rfl⟩
set_option maxHeartbeats 4000000 in
set_option maxRecDepth 100000 in
theorem string_nil (b : Nat) (p : Value) (w : World) (hb : w.heap[b]? = some (.cells #[p, .slice none 0 0] 64 (0, 0))) :
    Calls Tryd.prog 26 #[.pointer (some ⟨b, 0, none⟩)] w fun e w' => e = .returned (.string .empty) ∧ Below w.heap.size w w' := by
  have hUS := string_nil_run
  have c1 : w.drew.cell? ⟨b, 1, none⟩ = some (.slice none 0 0) := by
    have : w.drew.heap[b]? = some (.cells #[p, .slice none 0 0] 64 (0, 0)) := hb
    rw [Lib.cell_of_heap this]; rfl
  have hSD : (Builtin.unsafeSliceData_ #[62] 85 #[.slice none 0 0]).run Tryd.prog w.drew = .ok (.pointer none) w.drew := rfl
  clear hb
  go_enter Tryd.func26, Tryd.ntmps26
  go_wp2_with fail
  go_region
  all_goals (go_wp2_with fail; go_ret; exact ⟨rfl, (Below.refl _ _).drew⟩)
set_option maxHeartbeats 4000000 in
set_option maxRecDepth 100000 in
theorem string_room (b g cap : Nat) (p : Value) (w : World) (hc0 : cap ≠ 0) (hb : w.heap[b]? = some (.cells #[p, .slice (some ⟨g, 0, none⟩) 0 cap] 64 (0, 0))) :
    Calls Tryd.prog 26 #[.pointer (some ⟨b, 0, none⟩)] w fun e w' => e = .returned (.string .empty) ∧ Below w.heap.size w w' := by
  have hUS := string_nil_run
  have c1 : w.drew.cell? ⟨b, 1, none⟩ = some (.slice (some ⟨g, 0, none⟩) 0 cap) := by
    have : w.drew.heap[b]? = some (.cells #[p, .slice (some ⟨g, 0, none⟩) 0 cap] 64 (0, 0)) := hb
    rw [Lib.cell_of_heap this]; rfl
  have hSD : (Builtin.unsafeSliceData_ #[62] 85 #[.slice (some ⟨g, 0, none⟩) 0 cap]).run Tryd.prog w.drew = .ok (.pointer (some ⟨g, 0, none⟩)) w.drew :=
    Lib.run_unsafeSliceData_row _ _ _ _ _ _ hc0
  clear hb hc0
  go_enter Tryd.func26, Tryd.ntmps26
  go_wp2_with fail
  go_region
  all_goals (go_wp2_with fail; go_ret; exact ⟨rfl, (Below.refl _ _).drew⟩)
set_option maxHeartbeats 4000000 in
set_option maxRecDepth 100000 in
theorem string_noroom (b g : Nat) (p : Value) (cur : Array Value) (fz : Nat × Nat) (w : World) (hb : w.heap[b]? = some (.cells #[p, .slice (some ⟨g, 0, none⟩) 0 0] 64 (0, 0))) (hg : w.heap[g]? = some (.cells cur 5 fz)) :
    Calls Tryd.prog 26 #[.pointer (some ⟨b, 0, none⟩)] w fun e w' => e = .returned (.string .empty) ∧ Below w.heap.size w w' := by
  have hUS := string_nil_run
  have hlt : b < w.heap.size := (Array.getElem?_eq_some_iff.1 hb).1
  have c1 : w.drew.cell? ⟨b, 1, none⟩ = some (.slice (some ⟨g, 0, none⟩) 0 0) := by
    have : w.drew.heap[b]? = some (.cells #[p, .slice (some ⟨g, 0, none⟩) 0 0] 64 (0, 0)) := hb
    rw [Lib.cell_of_heap this]; rfl
  have hSD : (Builtin.unsafeSliceData_ #[62] 85 #[.slice (some ⟨g, 0, none⟩) 0 0]).run Tryd.prog w.drew = .ok (.pointer (some ⟨w.drew.heap.size, 0, none⟩)) (w.drew.alloc (.view ⟨g, 0, none⟩ 5)) :=
    Lib.run_unsafeSliceData_zero w.drew _ _ 5 UPy ⟨g, 0, none⟩ 0 (5, cur.size) (by have hg' : w.drew.heap[g]? = some (.cells cur 5 fz) := hg; simp [World.shape?, hg'])
  have c2 : (w.drew.alloc (.view ⟨g, 0, none⟩ 5)).cell? ⟨b, 1, none⟩ = some (.slice (some ⟨g, 0, none⟩) 0 0) := by
    have : (w.drew.alloc (.view ⟨g, 0, none⟩ 5)).heap[b]? = _ := (Lib.alloc_old w.drew _ b hlt).trans hb
    rw [Lib.cell_of_heap this]; rfl
  have c3 : (w.alloc (.view ⟨g, 0, none⟩ 5)).drew.cell? ⟨b, 1, none⟩ = some (.slice (some ⟨g, 0, none⟩) 0 0) := c2
  have c0 : w.cell? ⟨b, 1, none⟩ = some (.slice (some ⟨g, 0, none⟩) 0 0) := c1
  clear hb hg hlt
  go_enter Tryd.func26, Tryd.ntmps26
  go_wp2_with fail
  go_region
  all_goals (go_wp2_with fail; go_ret; exact ⟨rfl, (Below.drew (Below.refl _ _)).alloc (Nat.le_refl _) _⟩)
theorem string_calls (B b : Nat) (r : Option Nat) (l : List UInt8) (w : World) (h : BU B b r (hc l) w) :
    Calls Tryd.prog 26 #[.pointer (some ⟨b, 0, none⟩)] w fun e w' => e = .returned (.string (ba l)) ∧ BU B b r (hc l) w' ∧ Wr b r r w w' := by
  have h' := h
  obtain ⟨p, v, hp, hB, hb, ho, hr⟩ := h
  have fin : ∀ (e : Ending) (w' : World), l = [] → (e = .returned (.string .empty) ∧ Below w.heap.size w w') → e = .returned (.string (ba l)) ∧ BU B b r (hc l) w' ∧ Wr b r r w w' := by
    rintro e w' hl ⟨he, hbl⟩
    exact ⟨by rw [he, hl]; rfl, h'.keepB hbl, Wr.of_below hbl⟩
  rcases ho.2 with ⟨rfl, h0⟩ | ⟨g, cap, cur, fz, rfl, hbg, hg, hfz, hnc, hcm, hcs, htake⟩
  · have hl : l = [] := by rw [hc_len] at h0; exact List.eq_nil_of_length_eq_zero h0
    exact (string_nil b p w hb).mono (fun e w' q => fin e w' hl q)
  · rw [hc_len] at *
    cases l with
    | nil =>
      by_cases hc0 : cap = 0
      · subst hc0
        exact (string_noroom b g p cur fz w hb hg).mono (fun e w' q => fin e w' rfl q)
      · exact (string_room b g cap p w hc0 hb).mono (fun e w' q => fin e w' rfl q)
    | cons x m =>
      obtain rfl : some g = r := hr
      exact string_some B b g cap p (x :: m) cur fz w hp hB hb ho hg hnc hcm (by simpa using hcs) (by simp)
end Go.Proofs.YtihdeanfcbiflaaDoor.Vb
