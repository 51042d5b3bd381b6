/- The walks of the builder's copy check, WriteString and Len, at a Buf. -/
import Derived.Test.YtihdeanfcbiflaaDoorVBld
import Derived.Test.YtihdeanfcbiflaaDoorProg
namespace Go.Proofs.YtihdeanfcbiflaaDoor.Vb
open Go.RowKit Go.Proofs.YtihdeanfcbiflaaDoor.Mk
theorem infoByte : (Tryd.prog.info? 5).map (fun i => (i.zero, i.size, i.bytes)) = some (some (.int .u8 0), 1, 1) := by kernel_rfl
theorem sizeBld : (Tryd.prog.info? 64).map (·.size) = some 2 := by kernel_rfl
theorem liesBld : liesAt Tryd.prog Tryd.prog.depth 64 (2 / Tryd.prog.cellsOf 64) 0 64 1 = true := by kernel_rfl
theorem UBy : Tryd.prog.underlying 5 = some (.int .u8) := by kernel_rfl
theorem UBs : Tryd.prog.underlying 62 = some (.slice 5) := by kernel_rfl
theorem USt : Tryd.prog.underlying 9 = some .string := by kernel_rfl
theorem UPb : Tryd.prog.underlying 61 = some (.pointer 64) := by kernel_rfl
theorem UUp : Tryd.prog.underlying 90 = some .unsafePointer := by kernel_rfl
theorem shape_buf {b : Nat} {p v : Value} {w : World} (hb : w.heap[b]? = some (.cells #[p, v] 64 (0, 0))) : w.shape? b = some (64, 2) := by simp [World.shape?, hb]
set_option maxHeartbeats 1000000 in
set_option maxRecDepth 100000 in
theorem check_fresh (b : Nat) (v : Value) (w : World) (hb : w.heap[b]? = some (.cells #[.pointer none, v] 64 (0, 0))) :
    Calls Tryd.prog 43 #[.pointer (some ⟨b, 0, none⟩)] w fun e w' => e = .returned (.tuple #[]) ∧ w' = w.setCell ⟨b, 0, none⟩ (.pointer (some ⟨b, 0, none⟩)) := by
  obtain ⟨j, hj, hjs⟩ := Option.map_eq_some_iff.1 sizeBld
  have hsh := shape_buf hb
  have h0 : w.cell? ⟨b, 0, none⟩ = some (.pointer none) := by rw [Lib.cell_of_heap hb]; rfl
  have hfz : w.frozen? ⟨b, 0, none⟩ = false := Lib.frozen_of_heap hb 0
  have Hsh := Lib.hid hsh
  have Hj := Lib.hid hj
  have Hjs := Lib.hid hjs
  clear hsh hj hjs hb
  go_enter Tryd.func43, Tryd.ntmps43
  go_wp2_with fail
  rw [Lib.run_to_unsafe w ⟨b, 0, none⟩ UPb UUp Hj.out (by rw [Hjs.out]; decide) Hsh.out (Nat.zero_lt_succ 1)]
  simp only [Result.andThen]
  rw [Oper.upon_value]
  go_wp2_with fail
  rw [run_callFunc_extern Tryd.func52 (by kernel_rfl) (by kernel_rfl) (by kernel_rfl) (e := Extern.AbiNoEscape.same) (by kernel_rfl)]
  rw [Lib.run_noEscape]
  simp only [Result.andThen]
  rw [Oper.upon_value]
  go_wp2_with fail
  rw [Lib.run_from_unsafe w ⟨b, 0, none⟩ UUp UPb Hj.out Hsh.out liesBld]
  simp only [Result.andThen]
  rw [Oper.upon_value]
  go_wp2_with fail
  go_end0
  exact ⟨rfl, rfl⟩
set_option maxHeartbeats 1000000 in
theorem check_used (b : Nat) (v : Value) (w : World) (hb : w.heap[b]? = some (.cells #[.pointer (some ⟨b, 0, none⟩), v] 64 (0, 0))) :
    Calls Tryd.prog 43 #[.pointer (some ⟨b, 0, none⟩)] w fun e w' => e = .returned (.tuple #[]) ∧ w' = w := by
  obtain ⟨j, hj, hjs⟩ := Option.map_eq_some_iff.1 sizeBld
  have h0 : w.cell? ⟨b, 0, none⟩ = some (.pointer (some ⟨b, 0, none⟩)) := by rw [Lib.cell_of_heap hb]; rfl
  have hne : ∀ wx, (binOp .neq 61 (.pointer (some ⟨b, 0, none⟩)) (.pointer (some ⟨b, 0, none⟩))).run Tryd.prog wx = .ok (.bool false) wx := fun wx => Lib.run_neq_ptr_same wx ⟨b, 0, none⟩ UPb hj
  clear hb hj hjs
  go_enter Tryd.func43, Tryd.ntmps43
  go_wp2_with fail
  go_end0
  exact ⟨rfl, rfl⟩
theorem check_calls (B b : Nat) (r : Option Nat) (l : List Value) (w : World) (h : BU B b r l w) :
    Calls Tryd.prog 43 #[.pointer (some ⟨b, 0, none⟩)] w fun e w' => e = .returned (.tuple #[]) ∧
      ∃ v, w'.heap[b]? = some (.cells #[.pointer (some ⟨b, 0, none⟩), v] 64 (0, 0)) ∧ w'.ownsRowF B 5 1 v l.length l ∧ v.ownBlock = r ∧ Wr b r r w w' := by
  have hne := h.ne
  obtain ⟨p, v, hp, hB, hb, ho, hr⟩ := h
  rcases hp with rfl | rfl
  · refine (check_fresh b v w hb).mono ?_
    rintro e w' ⟨rfl, rfl⟩
    refine ⟨rfl, v, ?_, ?_, hr, (But.refl _ w).setCell (p := ⟨b, 0, none⟩) (.inl rfl) _, .inl rfl⟩
    · simp [World.setCell, Array.getElem?_modify, hb]
    · exact ho.kept (row := some b) ⟨rfl, rfl, rfl, by simp [World.setCell], fun k _ hk => Below.heap_setCell _ _ _ _ (fun e => hk (by simp [e]))⟩ (.inr (by rw [hr]; exact hne))
  · refine (check_used b v w hb).mono ?_
    rintro e w' ⟨rfl, rfl⟩
    exact ⟨rfl, v, hb, ho, hr, Wr.refl _ _ _⟩
/-- an append of a string: where the row lies behind -/
theorem append_string (w : World) (B : Nat) (i : TypeInfo) (hi : Tryd.prog.info? 5 = some i) (hz : i.zero = some (.int .u8 0)) (h1 : i.size = 1) (h2 : i.bytes = 1) (v : Value) (n : Nat) (l : List Value) (ho : w.ownsRowF B 5 1 v n l) (s : ByteArray) (ty : TypeId)
    (hlen : n + s.size ≤ 140737488355328) (hB : B ≤ w.heap.size) :
    ∃ v' w', (Builtin.append_ #[62, 9] ty #[v, .string s]).run Tryd.prog w = .ok v' w' ∧ w'.ownsRowF B 5 1 v' (n + s.size) (l ++ hc (bs s)) ∧ w.grownBy w' v.ownBlock ∧
      (v'.ownBlock = v.ownBlock ∨ ∃ k, v'.ownBlock = some k ∧ w.heap.size ≤ k) ∧ ∃ A c, v' = .slice A (n + s.size) c := by
  have h63 : n + s.size ≤ maxLen := by unfold maxLen; omega
  obtain ⟨v', w', hr, q2, q3, q4⟩ := Lib.run_append_own_stringF (P := Tryd.prog) w B 62 9 ty 5 i UBs USt hi hz h1 h2 v n l ho s h63 hlen hB
  refine ⟨v', w', hr, q2, q3, ?_, ?_⟩
  · rcases ho.2 with ⟨rfl, rfl⟩ | ⟨g, cap, cur, fz, rfl, hbg, hg, hfz, hnc, hcm, hcs, htake⟩
    · have ho' : w.ownsRowF w.heap.size 5 1 (.slice none 0 0) 0 l := ⟨ho.1, .inl ⟨rfl, rfl⟩⟩
      obtain ⟨v2, w2, hr2, p2, p3, p4⟩ := Lib.run_append_own_stringF (P := Tryd.prog) w w.heap.size 62 9 ty 5 i UBs USt hi hz h1 h2 _ 0 l ho' s h63 hlen (Nat.le_refl _)
      rw [hr] at hr2
      cases hr2
      cases hv : v'.ownBlock with
      | none => exact .inl rfl
      | some k => exact .inr ⟨k, rfl, (p2.lt k hv).1⟩
    · by_cases hroom : n + s.size ≤ cap
      · have := Lib.run_append_room_stringF (P := Tryd.prog) w 62 9 ty 5 i UBs USt hi h1 g n cap cur fz hg (by simpa using hfz) s hroom (by simp at hcs; omega)
        rw [hr] at this
        cases this
        exact .inl rfl
      · have hxl : l.length = n := by simpa using ho.1
        have := Lib.run_append_grow_string (P := Tryd.prog) w 62 9 ty 5 i (.int .u8 0) UBs USt hi hz ⟨g, 0, none⟩ n cap l (by rw [h1]; simpa using hxl) (ho.cells rfl) s (by omega) (by omega) (by rw [h2]; exact growslice_fits (by omega) (by omega))
        rw [hr] at this
        cases this
        exact .inr ⟨w.heap.size, rfl, Nat.le_refl _⟩
  · rcases q2.2 with ⟨e1, e2⟩ | ⟨g, cap, cur, fz, e1, _⟩
    · exact ⟨none, 0, by rw [e1, e2]⟩
    · exact ⟨_, _, e1⟩
end Go.Proofs.YtihdeanfcbiflaaDoor.Vb
