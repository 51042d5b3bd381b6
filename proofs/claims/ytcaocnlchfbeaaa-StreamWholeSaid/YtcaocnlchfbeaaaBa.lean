import Derived.WalkKit
import Derived.WalkSpells
import Derived.WalkLawsBesides
import Derived.Deep.MidRow
import Derived.Deep.WholeRow
import Derived.Stop.BytesEq
import Derived.Lib.Hide
import Derived.Deep.QuietTactic
import Derived.BigQuiet
import Derived.Laws.AppendOwn
import Derived.Great.BuildSlice
import Derived.Lib.QuietBelow
import Derived.Deep.RegionLaw
import Derived.Deep.AppendLies
import Derived.RowKit
import Derived.Laws.Rows
import Derived.Great.FillDense
import Derived.Laws.Tables
import Derived.Laws.CopyRow
/- Laws on whole arrays, slices of flat elements and quiet regions, over any program. Used by the walks; no condition. -/
namespace Go.Proofs.Ytcaocnlchfbeaaa.Mk
open Go.RowKit
open Extern.Stop (cell)

/-! ### hashes: lists of 32 bytes -/
def hc (h : List UInt8) : List Value := h.map cell
def hv (h : List UInt8) : Value := .agg (hc h).toArray
theorem hc_len (h : List UInt8) : (hc h).length = h.length := by simp [hc]
theorem hc_one (h : List UInt8) : (hc h).toArray.all (·.oneCell') = true := by simp [hc, cell, Value.oneCell']
theorem hc_one' (h : List UInt8) : ∀ u ∈ hc h, u.oneCell' = true := by simp [hc, cell, Value.oneCell']

/-! ### ranges -/
theorem range_below {w w' : World} {b o : Nat} {cs : List Value} (h : w.rangeAt b o cs) (hb : Below w.heap.size w w') : w'.rangeAt b o cs := fun j v hv => by
  have h1 := h j v hv
  rw [hb.cell (p := ⟨b, o + j, none⟩) (block_lt_of_cell h1)]
  exact h1
theorem range_row {w : World} {b : Nat} {cs : List Value} {t : TypeId} {fr : Nat × Nat} (h : w.heap[b]? = some (.cells cs.toArray t fr)) : w.rangeAt b 0 cs := fun j v hv => by
  rw [cell_of_row w b (0 + j) _ t fr h]
  simpa using hv
theorem below_of {B : Nat} {w w1 w2 : World} (h1 : Below B w w1) (h2 : Below w1.heap.size w1 w2) (hB : B ≤ w1.heap.size) : Below B w w2 := h1.trans (h2.mono hB)
theorem below_up {w w1 w2 : World} (h1 : Below w.heap.size w w1) (h2 : Below w1.heap.size w1 w2) : Below w.heap.size w w2 := h1.trans (h2.mono h1.size)

theorem bdN {B : Nat} {w w1 : World} (h : Below B w w1) (n : Nat) : Below B w (w1.drewN n) := ⟨h.os, h.tape, h.output, h.size, h.block⟩

/-! ### slices of flat elements -/
structure SL {α : Type} (enc : α → List Value) (sz : Nat) (w : World) (v : Value) (l : List α) : Prop where
  len : ∀ x ∈ l, (enc x).length = sz
  bd : l.length ≤ 140737488355328
  ex : ∃ A c, v = .slice A l.length c ∧ l.length ≤ c ∧ c ≤ maxLen ∧ (0 < l.length → ∃ b o, A = some ⟨b, o, none⟩ ∧ ∀ k x, l[k]? = some x → w.rangeAt b (o + k * sz) (enc x))
section
variable {α : Type} {enc : α → List Value} {sz : Nat} {w w' : World} {v : Value} {l : List α}
theorem SL.below (h : SL enc sz w v l) (hb : Below w.heap.size w w') : SL enc sz w' v l := by
  obtain ⟨h1, h2, A, c, h3, h4, h5, h6⟩ := h
  refine ⟨h1, h2, A, c, h3, h4, h5, fun hp => ?_⟩
  obtain ⟨b, o, h7, h8⟩ := h6 hp
  exact ⟨b, o, h7, fun k x hk => range_below (h8 k x hk) hb⟩
theorem SL.nil (enc : α → List Value) (sz : Nat) (w : World) : SL enc sz w (.slice none 0 0) [] :=
  ⟨fun x hx => by simp at hx, by simp, none, 0, rfl, Nat.le_refl _, by simp [maxLen], fun h => by simp at h⟩
/-- an own row reads -/
theorem SL.of_owns {base : Nat} {e : TypeId} (h : w.ownsRow base e sz v l.length (l.flatMap enc)) (hl : ∀ x ∈ l, (enc x).length = sz) (hb : l.length ≤ 140737488355328) : SL enc sz w v l := by
  obtain ⟨h1, h2⟩ := h
  rcases h2 with ⟨rfl, h0⟩ | ⟨g, cap, cur, rfl, hg, hh, hn, hm, hs, ht⟩
  · obtain rfl : l = [] := List.eq_nil_of_length_eq_zero h0
    exact SL.nil _ _ _
  · refine ⟨hl, hb, some ⟨g, 0, none⟩, cap, rfl, hn, hm, fun _ => ⟨g, 0, rfl, fun k x hk j u hj => ?_⟩⟩
    have hkl : k < l.length := (List.getElem?_eq_some_iff.1 hk).1
    have hjl : j < sz := by rw [← hl x (List.mem_of_getElem? hk)]; exact (List.getElem?_eq_some_iff.1 hj).1
    rw [cell_of_row w g _ cur e (0, 0) hh]
    have hlt : k * sz + j < l.length * sz := by
      have : (k + 1) * sz ≤ l.length * sz := Nat.mul_le_mul_right _ hkl
      rw [Nat.succ_mul] at this
      omega
    have e1 : cur.toList[k * sz + j]? = (l.flatMap enc)[k * sz + j]? := by
      rw [← ht, List.getElem?_take, if_pos hlt]
    have e2 : ∀ (m : List α) (i : Nat), (∀ y ∈ m, (enc y).length = sz) → m[i]? = some x → (m.flatMap enc)[i * sz + j]? = some u := by
      intro m
      induction m with
      | nil => intro i _ hi; simp at hi
      | cons y m ih =>
        intro i hm hi
        have hy : (enc y).length = sz := hm y (by simp)
        rw [List.flatMap_cons]
        cases i with
        | zero =>
          obtain rfl : y = x := by simpa using hi
          rw [Nat.zero_mul, Nat.zero_add, List.getElem?_append_left (by omega)]
          exact hj
        | succ i =>
          rw [List.getElem?_append_right (by rw [hy, Nat.succ_mul]; omega), hy, show (i + 1) * sz + j - sz = i * sz + j by rw [Nat.succ_mul]; omega]
          exact ih i (fun z hz => hm z (by simp [hz])) (by simpa using hi)
    have e3 := e2 l k hl hk
    rw [Nat.zero_add, ← Array.getElem?_toList, e1, e3]
/-- a block of a list's cells reads -/
theorem SL.of_block {g : Nat} {t : TypeId} (h : w.heap[g]? = some (.cells (l.flatMap enc).toArray t (0, 0))) (hl : ∀ x ∈ l, (enc x).length = sz) (hb : l.length ≤ 140737488355328) (n : Nat) (hn : n = l.length) :
    SL enc sz w (.slice (some ⟨g, 0, none⟩) n n) l := by
  subst hn
  have hlen : ∀ (m : List α), (∀ y ∈ m, (enc y).length = sz) → (m.flatMap enc).length = m.length * sz := by
    intro m
    induction m with
    | nil => intro _; simp
    | cons y m ih =>
      intro hm
      rw [List.flatMap_cons, List.length_append, ih (fun z hz => hm z (by simp [hz])), hm y (by simp), List.length_cons, Nat.succ_mul]
      omega
  have hq := hlen l hl
  exact SL.of_owns (base := 0) (e := t) ⟨hq, .inr ⟨g, l.length, _, rfl, Nat.zero_le _, h, Nat.le_refl _, by simp only [maxLen]; omega, by rw [List.size_toArray]; exact hq, by rw [← hq]; exact List.take_length⟩⟩ hl hb
/-- the first elements -/
theorem SL.take {A : Option Addr} {n c : Nat} (h : SL enc sz w (.slice A n c) l) (i : Nat) (hi : i ≤ l.length) : SL enc sz w (.slice A i c) (l.take i) := by
  obtain ⟨h1, h2, A', c', h3, h4, h5, h6⟩ := h
  injection h3 with hA hn hc
  subst hA hn hc
  have hli : (l.take i).length = i := by rw [List.length_take]; omega
  refine ⟨fun x hx => h1 x (List.mem_of_mem_take hx), by omega, A, c, by rw [hli], by omega, h5, fun hp => ?_⟩
  obtain ⟨b, o, h7, h8⟩ := h6 (by omega)
  refine ⟨b, o, h7, fun k x hk => h8 k x ?_⟩
  rw [List.getElem?_take] at hk
  split at hk
  · exact hk
  · simp at hk
end

/-! ### a whole array stored into the block that was made last -/
section
variable {P : Program}
theorem wpList_store_last {ops : Array Oper} {rest : List Oper} {op : Oper} {a : Act} {w : World} {Q : Exit → Act → World → Prop} (hgd : op.guard = none) (ty : TypeId) (x y : Operand) (ho : op.op = .store ty x y)
    (c c' : Array Value) (hx : a.eval x = .pointer (some ⟨w.heap.size, 0, none⟩)) (hy : a.eval y = .agg c')
    (hi : (P.info? ty).map (·.size) = some c'.size) (hs : c.size = c'.size) (h1 : c'.all (·.oneCell') = true)
    (h : wpList P ops Q rest (a.put op.dst undef) (w.alloc (.cells c' ty))) : wpList P ops Q (op :: rest) a (w.alloc (.cells c ty)) :=
  wpList_plain hgd fun _ hK => by
    unfold Oper.wp execOp
    simp only [ho, hx, hy, Instr.storeAt, Instr.sureAddr, Sem.run_bind, Sem.run_pure, Result.andThen_ok, run_storeVar_new w ty c c' hi hs h1]
    exact hK _ _ h
theorem run_loadAt_row (w : World) (g : Nat) (t ty : TypeId) (cs : Array Value) (fr : Nat × Nat) (d : TypeDesc) (hg : w.heap[g]? = some (.cells cs t fr))
    (hu : P.underlying ty = some d) (hd : (match d with | .struct _ | .array _ _ => true | _ => false) = true) (hi : (P.info? ty).map (·.size) = some cs.size) :
    (Instr.loadAt ty (.pointer (some ⟨g, 0, none⟩))).run P w = .ok (.agg cs) w := by
  simp only [Instr.loadAt, Instr.sureAddr, Sem.run_bind, Sem.run_pure, Result.andThen_ok, run_loadVar_row w g t ty cs fr d hg hu hd hi]
/-- '!=' of two arrays of bytes -/
theorem run_neq_bytes (w : World) (t e : TypeId) (n : Nat) (ht : P.underlying t = some (.array n e)) (he : P.underlying e = some (.int .u8)) (hsz : ∀ w, (sizeOf e).run P w = .ok 1 w)
    (xs ys : List UInt8) (hx : xs.length = n) (hy : ys.length = n) :
    (binOp .neq t (.agg (xs.map cell).toArray) (.agg (ys.map cell).toArray)).run P w = .ok (.bool (!(xs == ys))) w := by
  rw [run_neq_struct, run_equalIn_bytes w 9998 t e n ht he hsz xs ys hx hy]
  rfl
end

/-! ### a slice literal whose parts are whole values -/
section
variable {P : Program}
theorem wpList_buildWhole {ops : Array Oper} {rest : List Oper} {o : Oper} {a : Act} {w : World} {Q : Exit → Act → World → Prop} (hg : o.guard = none) (t e : TypeId) (len s : Nat) (parts : Array (Nat × Operand)) (ho : o.op = .buildSlice t len parts)
    (vs : List Value) (z : Value) (bytes : Nat) (hp : (parts.map fun (i, x) => (i, a.eval x)).toList = (vs.zipIdx 0).map fun x => (x.2, x.1)) (hv : ∀ v ∈ vs, v.cells.size = s) (hl : vs.length = len)
    (hi : (P.info? e).map (fun i => (i.zero, i.size, i.bytes)) = some (some z, s, bytes)) (hu : P.underlying t = some (.slice e)) (hs : 0 < s) (hlen : 0 < len) (hsmall : len * s ≤ 16777216)
    (h : wpList P ops Q rest (a.put o.dst (.slice (some ⟨w.heap.size, 0, none⟩) len len)) (w.alloc (.cells (vs.flatMap fun v => v.cells.toList).toArray e))) : wpList P ops Q (o :: rest) a w := by
  cases hq : P.info? e with
  | none => rw [hq] at hi; cases hi
  | some ie =>
    rw [hq] at hi
    simp only [Option.map_some, Option.some.injEq, Prod.mk.injEq] at hi
    obtain ⟨hz, hsz, _⟩ := hi
    have hpos : 0 < len * s := Nat.mul_pos hlen hs
    refine wpList_buildSlice hg t e len parts ho _ ie z hu hq hz (by rw [hsz]; omega) (by rw [hsz]; omega) ?_ h
    rw [hp, hsz]
    exact Great.fill_whole hs vs _ hv (by simp [hl])
theorem wpList_buildOne {ops : Array Oper} {rest : List Oper} {o : Oper} {a : Act} {w : World} {Q : Exit → Act → World → Prop} (hg : o.guard = none) (t e : TypeId) (s : Nat) (x : Operand) (ho : o.op = .buildSlice t 1 #[(0, x)])
    (cs : Array Value) (z : Value) (bytes : Nat) (hx : a.eval x = .agg cs) (hv : cs.size = s)
    (hi : (P.info? e).map (fun i => (i.zero, i.size, i.bytes)) = some (some z, s, bytes)) (hu : P.underlying t = some (.slice e)) (hs : 0 < s) (hsmall : s ≤ 16777216)
    (h : wpList P ops Q rest (a.put o.dst (.slice (some ⟨w.heap.size, 0, none⟩) 1 1)) (w.alloc (.cells cs e))) : wpList P ops Q (o :: rest) a w := by
  refine wpList_buildWhole hg t e 1 s #[(0, x)] ho [.agg cs] z bytes (by simp [hx]) (by simp [Value.cells, hv]) rfl hi hu hs (by decide) (by omega) ?_
  simpa [Value.cells] using h
end

/-! ### quiet regions: an operation whose value is known in every world of the class -/
section
variable {P : Program} {ops : Array Oper} {C : World → Prop} {Q : Act → Prop} {a : Act} {o : Oper} {rest : List Oper}
theorem wpQuiet_value (hw : Region.wanted o (yielded ops a.tmps) = true) (v : Value) (hL : ∀ w, C w → (execOp a.eval o).run P w = .ok (.value v) w) (h : wpQuiet P ops C Q rest (a.put o.dst v)) : wpQuiet P ops C Q (o :: rest) a := by
  unfold wpQuiet
  rw [if_pos hw]
  refine ⟨v, fun w hC => ?_, h⟩
  unfold Oper.quietAt
  rw [hL w hC]
  exact ⟨rfl, rfl⟩
theorem wpQuiet_load (hw : Region.wanted o (yielded ops a.tmps) = true) (ty : TypeId) (x : Operand) (ho : o.op = .load ty x) (p : Addr) (hx : a.eval x = .pointer (some p)) (v : Value)
    (hL : ∀ w, C w → (Instr.loadAt ty (.pointer (some p))).run P w = .ok v w) (h : wpQuiet P ops C Q rest (a.put o.dst v)) : wpQuiet P ops C Q (o :: rest) a :=
  wpQuiet_value hw v (fun w hC => by unfold execOp; simp only [ho, hx, Sem.run_bind, hL w hC, Result.andThen_ok, Sem.run_pure]) h
theorem wpQuiet_call (hw : Region.wanted o (yielded ops a.tmps) = true) (f : FuncId) (args : Array Value) (hrun : ∀ w, (execOp a.eval o).run P w = .ok (.enter f args) w) (v : Value)
    (hc : ∀ w, C w → Calls P f args w fun e w' => e = .returned v ∧ C w') (h : wpQuiet P ops C Q rest (a.put o.dst v)) : wpQuiet P ops C Q (o :: rest) a := by
  unfold wpQuiet
  rw [if_pos hw]
  refine ⟨v, fun w hC => ?_, h⟩
  unfold Oper.quietAt
  rw [hrun w]
  exact ⟨rfl, hc w hC⟩
end
/-- Of a contract that ends in 'Below': in the class of a quiet region. -/
theorem rg_of {P : Program} {f : FuncId} {args : Array Value} {w : World} {v : Value} (h : ∀ wx, Below w.heap.size w wx → Calls P f args wx fun e w' => e = .returned v ∧ Below wx.heap.size wx w') :
    ∀ wx, (∃ p : Regrown, wx = Sort.grow (redrawn w p.d) p.os) → Calls P f args wx fun e w'' => e = .returned v ∧ ∃ p : Regrown, w'' = Sort.grow (redrawn w p.d) p.os := by
  rintro wx ⟨p, rfl⟩
  exact Calls.regrown_of (h _ (below_regrown w p.d p.os))
theorem rg_fact {w : World} {φ : World → Prop} (h : ∀ wx, Below w.heap.size w wx → φ wx) : ∀ wx, (∃ p : Regrown, wx = Sort.grow (redrawn w p.d) p.os) → φ wx := by
  rintro wx ⟨p, rfl⟩
  exact h _ (below_regrown w p.d p.os)
/-! ### bytes and strings -/
def ba (l : List UInt8) : ByteArray := ⟨l.toArray⟩
def bs (s : ByteArray) : List UInt8 := s.data.toList
theorem bs_ba (l : List UInt8) : bs (ba l) = l := rfl
theorem ba_bs (s : ByteArray) : ba (bs s) = s := rfl
theorem ba_size (l : List UInt8) : (ba l).size = l.length := rfl
theorem bs_len (s : ByteArray) : (bs s).length = s.size := Array.length_toList
theorem bs_get (s : ByteArray) (n : Nat) (h : n < s.size) (h2 : n < (bs s).length) : (bs s)[n]'h2 = s[n]'h := Array.getElem_toList h
theorem bs_append (s t : ByteArray) : bs (s ++ t) = bs s ++ bs t := by simp [bs]
theorem ba_append (l m : List UInt8) : ba l ++ ba m = ba (l ++ m) := by
  apply ByteArray.ext
  simp [ba]
theorem bs_toList (s : ByteArray) : s.toList = bs s := by rw [ByteArray.toList_eq]; rfl
/-- a slice of bytes reads as so many bytes -/
structure SB (w : World) (v : Value) (l : List UInt8) : Prop where
  bd : l.length ≤ maxLen
  ex : ∃ A c, v = .slice A l.length c ∧ l.length ≤ c ∧ c ≤ maxLen ∧ (0 < l.length → ∃ b o, A = some ⟨b, o, none⟩ ∧ w.rangeAt b o (hc l))
theorem SB.below {w w' : World} {v : Value} {l : List UInt8} (h : SB w v l) (hb : Below w.heap.size w w') : SB w' v l := by
  obtain ⟨h2, A, c, h3, h4, h5, h6⟩ := h
  refine ⟨h2, A, c, h3, h4, h5, fun hp => ?_⟩
  obtain ⟨b, o, h7, h8⟩ := h6 hp
  exact ⟨b, o, h7, range_below h8 hb⟩
theorem SB.of_owns {w : World} {base : Nat} {e : TypeId} {v : Value} {l : List UInt8} (h : w.ownsRow base e 1 v l.length (hc l)) : SB w v l := by
  obtain ⟨h1, h2⟩ := h
  rcases h2 with ⟨rfl, h0⟩ | ⟨g, cap, cur, rfl, hg, hh, hn, hm, hs, ht⟩
  · obtain rfl : l = [] := List.eq_nil_of_length_eq_zero h0
    exact ⟨by simp, none, 0, rfl, Nat.le_refl _, by simp [maxLen], fun h => by simp at h⟩
  · refine ⟨by omega, some ⟨g, 0, none⟩, cap, rfl, hn, hm, fun _ => ⟨g, 0, rfl, fun j u hj => ?_⟩⟩
    have hjl : j < l.length := by have := (List.getElem?_eq_some_iff.1 hj).1; rwa [hc_len] at this
    rw [cell_of_row w g _ cur e (0, 0) hh, ← hj, ← ht, List.getElem?_take, if_pos (by omega), Nat.zero_add, Array.getElem?_toList]
section
variable {P : Program}
theorem run_string_bytes {w : World} {src dst e : TypeId} {v : Value} {l : List UInt8} (hs : P.underlying src = some (.slice e)) (he : P.underlying e = some (.int .u8)) (hd : P.underlying dst = some .string)
    (h : SB w v l) : (convert src dst v).run P w = .ok (.string (ba l)) w := by
  obtain ⟨_, A, c, rfl, _, _, h6⟩ := h
  cases l with
  | nil =>
    cases A with
    | none => exact run_convert_bytes_nil w src e hs he _ c dst hd
    | some ad =>
      show (convert src dst (.slice (some ad) 0 c)).run P w = .ok (.string (ba [])) w
      rw [run_convert_bytes_string w src dst e _ 0 c hs he hd, run_bytesToString w ad 0 c [] (by rfl)]
      rfl
  | cons b0 l =>
    obtain ⟨b, o, rfl, h8⟩ := h6 (by simp)
    rw [run_convert_bytes_arg w src e hs he b o (b0 :: l).length c ((b0 :: l).map fun x => (x.toNat : Int)) (by simp) (fun i hi => ?_) dst hd]
    · congr 2
      apply ByteArray.ext
      have e : ∀ m : List UInt8, m.map ((fun n => UInt8.ofNat n.toNat) ∘ fun (x : UInt8) => (x.toNat : Int)) = m := by
        intro m
        induction m with
        | nil => rfl
        | cons y m ih => rw [List.map_cons, ih]; simp
      simp only [strOfNums, ba, List.map_map]
      rw [e]
    · have := h8 i (cell ((b0 :: l).getD i 0)) (by
        unfold hc
        rw [List.getElem?_map]
        simp [List.getD_eq_getElem?_getD, List.getElem?_eq_getElem hi])
      rw [this]
      simp only [cell, List.getD_eq_getElem?_getD, List.getElem?_map, List.getElem?_eq_getElem hi]
      rfl
end
end Go.Proofs.Ytcaocnlchfbeaaa.Mk

/- Steps of a region in order whose operations are guarded, and wanted. Over any program; no condition. -/
namespace Go.Proofs.Ytcaocnlchfbeaaa.Mk
open Go.RowKit
section
variable {P : Program} {ops : Array Oper} {o : Oper} {a : Act} {w : World} {K : Act → World → Prop} {Q : Exit → Act → World → Prop}
/-- an operation (guarded, and wanted) whose value is known, at the list of a region in order -/
theorem wpList_value {rest : List Oper} (hw : Region.wanted o (yielded ops a.tmps) = true) (v : Value) (hr : (execOp a.eval o).run P w = .ok (.value v) w) (h : wpList P ops Q rest (a.put o.dst v) w) : wpList P ops Q (o :: rest) a w := by
  refine wpList_step fun K hK => ?_
  rw [if_pos hw]
  unfold Oper.wp
  rw [hr]
  exact hK _ _ h
theorem wpList_loadg {rest : List Oper} (hw : Region.wanted o (yielded ops a.tmps) = true) (ty : TypeId) (x : Operand) (ho : o.op = .load ty x) (p : Addr) (hx : a.eval x = .pointer (some p)) (v : Value)
    (hr : (Instr.loadAt ty (.pointer (some p))).run P w = .ok v w) (h : wpList P ops Q rest (a.put o.dst v) w) : wpList P ops Q (o :: rest) a w :=
  wpList_value hw v (by unfold execOp; simp only [ho, hx, Sem.run_bind, hr, Result.andThen_ok, Sem.run_pure]) h
theorem run_bin {op : BinOp} {t ot : TypeId} {x y : Operand} {u v r : Value} (ho : o.op = .binOp op t x y ot) (hx : a.eval x = u) (hy : a.eval y = v) (hg : (eqGuard op t x y u v).run P w = .ok () w) (hr : (binOp op t u v).run P w = .ok r w) :
    (execOp a.eval o).run P w = .ok (.value r) w := by
  unfold execOp
  simp only [ho, hx, hy, Sem.run_bind, hg, hr, Result.andThen_ok, Sem.run_pure]
end
theorem cell_laid {w : World} {a : Addr} {v : Value} (h : w.cell? a = some v) (o : Obj) : (w.alloc o).cell? a = some v := by
  have h1 := block_lt_of_cell h
  obtain ⟨b, f, s⟩ := a
  have h2 : (w.alloc o).heap[b]? = w.heap[b]? := Below.heap_alloc _ _ _ h1
  cases s <;> simp_all [World.cell?]
end Go.Proofs.Ytcaocnlchfbeaaa.Mk

/- What is left alone but for some blocks. No condition. -/
namespace Go.Proofs.Ytcaocnlchfbeaaa.Mk
open Go.RowKit
/-- whatever lies in no block of S lies as it lay -/
structure But (S : Nat → Prop) (w w' : World) : Prop where
  os : w'.os = w.os
  tape : w'.tape = w.tape
  output : w'.output = w.output
  size : w.heap.size ≤ w'.heap.size
  block : ∀ k, k < w.heap.size → ¬ S k → w'.heap[k]? = w.heap[k]?
theorem But.refl (S : Nat → Prop) (w : World) : But S w w := ⟨rfl, rfl, rfl, Nat.le_refl _, fun _ _ _ => rfl⟩
theorem But.trans {S S' : Nat → Prop} {a b c : World} (h : But S a b) (k : But S' b c) (hs : ∀ i, i < a.heap.size → S' i → S i) : But S a c :=
  ⟨k.os.trans h.os, k.tape.trans h.tape, k.output.trans h.output, Nat.le_trans h.size k.size, fun i hi hn => (k.block i (Nat.lt_of_lt_of_le hi h.size) (fun e => hn (hs i hi e))).trans (h.block i hi hn)⟩
theorem But.mono {S S' : Nat → Prop} {a b : World} (h : But S a b) (hs : ∀ i, i < a.heap.size → S i → S' i) : But S' a b :=
  ⟨h.os, h.tape, h.output, h.size, fun i hi hn => h.block i hi (fun e => hn (hs i hi e))⟩
theorem But.below {S : Nat → Prop} {w w' : World} {B : Nat} (h : But S w w') (hB : B ≤ w.heap.size) (hs : ∀ i, S i → B ≤ i) : Below B w w' :=
  ⟨h.os, h.tape, h.output, h.size, fun i hi => h.block i (by omega) (fun e => by have := hs i e; omega)⟩
theorem But.of_below {S : Nat → Prop} {w w' : World} (h : Below w.heap.size w w') : But S w w' := ⟨h.os, h.tape, h.output, h.size, fun i hi _ => h.block i hi⟩
theorem But.alloc {S : Nat → Prop} {a w : World} (h : But S a w) (o : Obj) : But S a (w.alloc o) :=
  h.trans (S' := fun _ => False) ⟨rfl, rfl, rfl, by simp, fun k hk _ => Below.heap_alloc _ _ _ hk⟩ (fun _ _ e => e.elim)
theorem But.setCell {S : Nat → Prop} {a w : World} (h : But S a w) {p : Addr} (hp : S p.block) (u : Value) : But S a (w.setCell p u) :=
  h.trans (S' := fun k => k = p.block) ⟨rfl, rfl, rfl, by simp [World.setCell], fun k _ hn => Below.heap_setCell _ _ _ _ hn⟩ (fun _ _ e => by rw [e]; exact hp)
theorem But.grown {S : Nat → Prop} {a w w' : World} {row : Option Nat} (h : But S a w) (hg : w.grownBy w' row) (hr : ∀ k, k < a.heap.size → row = some k → S k) : But S a w' :=
  h.trans (S' := fun k => row = some k) ⟨hg.os, hg.tape, hg.output, hg.size, fun k hk hn => hg.block k hk (fun e => hn e.symm)⟩ hr
theorem heap_new (w : World) (o : Obj) : (w.alloc o).heap[w.heap.size]? = some o := heap_alloc_new w o
end Go.Proofs.Ytcaocnlchfbeaaa.Mk

/- Blocks that are known, carried from world to world. Over any program; no condition. -/
namespace Go.Proofs.Ytcaocnlchfbeaaa.Mk
open Go.RowKit
/-- each block of the list lies as it says -/
def KQ (L : List (Nat × Obj)) (w : World) : Prop := ∀ p ∈ L, w.heap[p.1]? = some p.2
theorem KQ.nil (w : World) : KQ [] w := fun p hp => by cases hp
theorem KQ.cons {L : List (Nat × Obj)} {w : World} {n : Nat} {o : Obj} (h : w.heap[n]? = some o) (k : KQ L w) : KQ ((n, o) :: L) w := fun p hp => by
  rcases List.mem_cons.1 hp with e | e
  · rw [e]; exact h
  · exact k p e
theorem KQ.head {L : List (Nat × Obj)} {w : World} {n : Nat} {o : Obj} (k : KQ ((n, o) :: L) w) : w.heap[n]? = some o := k (n, o) (by simp)
theorem KQ.tail {L : List (Nat × Obj)} {w : World} {p : Nat × Obj} (k : KQ (p :: L) w) : KQ L w := fun q hq => k q (by simp [hq])
theorem KQ.lt {L : List (Nat × Obj)} {w : World} (k : KQ L w) {p : Nat × Obj} (hp : p ∈ L) : p.1 < w.heap.size := (Array.getElem?_eq_some_iff.1 (k p hp)).1
theorem KQ.keep {L : List (Nat × Obj)} {w w' : World} (k : KQ L w) (hb : Below w.heap.size w w') : KQ L w' := fun p hp => (hb.block p.1 (k.lt hp)).trans (k p hp)
theorem KQ.but {L : List (Nat × Obj)} {S : Nat → Prop} {w w' : World} (k : KQ L w) (hb : But S w w') (hs : ∀ p ∈ L, ¬ S p.1) : KQ L w' := fun p hp => (hb.block p.1 (k.lt hp) (hs p hp)).trans (k p hp)
theorem KQ.alloc {L : List (Nat × Obj)} {w : World} (k : KQ L w) (o : Obj) : KQ ((w.heap.size, o) :: L) (w.alloc o) := KQ.cons (heap_new w o) (k.keep ((Below.refl _ _).alloc (Nat.le_refl _) _))
theorem KQ.row {L : List (Nat × Obj)} {w : World} {n : Nat} {cs c' : Array Value} {t : TypeId} (k : KQ L w) (h : w.heap[n]? = some (.cells cs t (0, 0))) (hn : ∀ p ∈ L, p.1 ≠ n) : KQ ((n, .cells c' t (0, 0)) :: L) (w.setRow n c') :=
  KQ.cons (setRow_heap _ _ _ _ _ _ h) (fun p hp => (setRow_other _ _ _ _ (hn p hp)).trans (k p hp))
theorem KQ.two {L : List (Nat × Obj)} {w : World} (k : KQ L w) (o1 o2 c1 c2 : Array Value) (t1 t2 : TypeId) :
    KQ ((w.heap.size + 1, .cells c2 t2 (0, 0)) :: (w.heap.size, .cells c1 t1 (0, 0)) :: L) ((((w.alloc (.cells o1 t1 (0, 0))).alloc (.cells o2 t2 (0, 0))).setRow w.heap.size c1).setRow (w.heap.size + 1) c2) := by
  have e1 : ((w.alloc (.cells o1 t1 (0, 0))).alloc (.cells o2 t2 (0, 0))).heap[w.heap.size + 1]? = some (.cells o2 t2 (0, 0)) := by
    have := heap_new (w.alloc (.cells o1 t1 (0, 0))) (.cells o2 t2 (0, 0))
    rwa [World.size_alloc] at this
  have e0 : ((w.alloc (.cells o1 t1 (0, 0))).alloc (.cells o2 t2 (0, 0))).heap[w.heap.size]? = some (.cells o1 t1 (0, 0)) := (Below.heap_alloc _ _ _ (by simp)).trans (heap_new w _)
  refine KQ.cons (setRow_heap _ _ _ _ _ _ ((setRow_other _ _ _ _ (by omega)).trans e1)) (KQ.cons ((setRow_other _ _ _ _ (by omega)).trans (setRow_heap _ _ _ _ _ _ e0)) ?_)
  intro p hp
  have hl := k.lt hp
  exact (setRow_other _ _ _ _ (by omega)).trans ((setRow_other _ _ _ _ (by omega)).trans ((Below.heap_alloc _ _ _ (by simp; omega)).trans ((Below.heap_alloc _ _ _ hl).trans (k p hp))))
theorem below_row {B : Nat} {w w' : World} {g : Nat} {cs : Array Value} (h : Below B w w') (hg : B ≤ g) : Below B w (w'.setRow g cs) :=
  ⟨h.os, h.tape, h.output, by simpa [World.setRow] using h.size, fun k hk => (setRow_other _ _ _ _ (by omega)).trans (h.block k hk)⟩
theorem below_two {w w2 : World} (b : Below w.heap.size w w2) (o1 o2 c1 c2 : Array Value) (t1 t2 : TypeId) :
    Below w.heap.size w ((((w2.alloc (.cells o1 t1 (0, 0))).alloc (.cells o2 t2 (0, 0))).setRow w2.heap.size c1).setRow (w2.heap.size + 1) c2) := by
  have := b.size
  exact below_row (below_row ((b.alloc this _).alloc (by simp; omega) _) (by omega)) (by omega)
end Go.Proofs.Ytcaocnlchfbeaaa.Mk

/- Steps of a region that draws its order: a load, a store, a call whose run is known. Over any program; no condition. -/
namespace Go.Proofs.Ytcaocnlchfbeaaa.Mk
open Go.RowKit
section
variable {P : Program} {ops : Array Oper} {o : Oper} {a : Act} {w : World} {K : Act → World → Prop} {Q : Exit → Act → World → Prop} {E : Prop}
theorem step_load (hg : o.guard = none) (ty : TypeId) (x : Operand) (ho : o.op = .load ty x) (p : Addr) (hx : a.eval x = .pointer (some p)) (v : Value)
    (hr : (Instr.loadAt ty (.pointer (some p))).run P w = .ok v w) (hK : K (a.put o.dst v) w) : if Region.wanted o (yielded ops a.tmps) = true then Oper.wp P o a w K Q else E := by
  rw [if_pos (by simp [Region.wanted, hg])]
  unfold Oper.wp execOp
  simp only [ho, hx, Sem.run_bind, hr, Result.andThen_ok, Sem.run_pure]
  exact hK
theorem step_store (hg : o.guard = none) (ty : TypeId) (x y : Operand) (ho : o.op = .store ty x y) (p : Addr) (hx : a.eval x = .pointer (some p)) (v : Value) (hy : a.eval y = v) (w' : World)
    (hr : (Instr.storeAt ty (.pointer (some p)) v).run P w = .ok () w') (hK : K (a.put o.dst undef) w') : if Region.wanted o (yielded ops a.tmps) = true then Oper.wp P o a w K Q else E := by
  rw [if_pos (by simp [Region.wanted, hg])]
  unfold Oper.wp execOp
  simp only [ho, hx, hy, Sem.run_bind, hr, Result.andThen_ok, Sem.run_pure]
  exact hK
theorem run_storeAt_row {g : Nat} {t ty : TypeId} {old cells : Array Value} (hg : w.heap[g]? = some (.cells old t (0, 0))) (hi : (P.info? ty).map (·.size) = some cells.size) (ho : old.size = cells.size) (h1 : cells.all (·.oneCell') = true) :
    (Instr.storeAt ty (.pointer (some ⟨g, 0, none⟩)) (.agg cells)).run P w = .ok () (w.setRow g cells) := by
  simp only [Instr.storeAt, Instr.sureAddr, Sem.run_bind, Sem.run_pure, Result.andThen_ok, run_storeVar_row w g t ty old cells hg hi ho h1]
end
theorem step_copy_run {P : Program} {ops : Array Oper} {o : Oper} {a : Act} {w : World} {K : Act → World → Prop} {Q : Exit → Act → World → Prop} {E : Prop} (hg : o.guard = none) (d s : Operand) (t t' : TypeId)
    (ho : o.op = .call { callee := .builtin .copy, args := #[d, s], argTypes := #[t, t'] }) (v u : Value) (hd : a.eval d = v) (hs : a.eval s = u) {v' : Value} {w' : World}
    (hr : (Builtin.copy_ #[t, t'] o.type #[v, u]).run P w = .ok v' w') (hK : K (a.put o.dst v') w') : if Region.wanted o (yielded ops a.tmps) = true then Oper.wp P o a w K Q else E := by
  rw [if_pos (by simp [Region.wanted, hg])]
  unfold Oper.wp execOp
  simp only [ho, resolve, invoke, builtin, Sem.run_bind, Sem.run_pure, Result.andThen_ok, List.map_toArray, List.map_cons, List.map_nil, hd, hs, hr]
  exact hK
end Go.Proofs.Ytcaocnlchfbeaaa.Mk

/- Steps of a region that draws its order: a slice of one whole value, a value whose run is known. Over any program; no condition. -/
namespace Go.Proofs.Ytcaocnlchfbeaaa.Mk
open Go.RowKit
section
variable {P : Program} {ops : Array Oper} {o : Oper} {a : Act} {w : World} {K : Act → World → Prop} {Q : Exit → Act → World → Prop} {E : Prop}
theorem step_buildOne (hg : o.guard = none) (t e : TypeId) (s : Nat) (x : Operand) (ho : o.op = .buildSlice t 1 #[(0, x)])
    (cs : Array Value) (z : Value) (bytes : Nat) (hx : a.eval x = .agg cs) (hv : cs.size = s)
    (hi : (P.info? e).map (fun i => (i.zero, i.size, i.bytes)) = some (some z, s, bytes)) (hu : P.underlying t = some (.slice e)) (hs : 0 < s) (hsmall : s ≤ 16777216)
    (h : K (a.put o.dst (.slice (some ⟨w.heap.size, 0, none⟩) 1 1)) (w.alloc (.cells cs e))) : if Region.wanted o (yielded ops a.tmps) = true then Oper.wp P o a w K Q else E := by
  rw [if_pos (by simp [Region.wanted, hg])]
  cases hq : P.info? e with
  | none => rw [hq] at hi; cases hi
  | some ie =>
    rw [hq] at hi
    simp only [Option.map_some, Option.some.injEq, Prod.mk.injEq] at hi
    obtain ⟨hz, hsz, _⟩ := hi
    have hc : ([Value.agg cs].flatMap fun v => v.cells.toList).toArray = cs := by simp [Value.cells]
    refine wp_buildSlice t e 1 _ ho ([Value.agg cs].flatMap fun v => v.cells.toList).toArray ie z hu hq hz (by rw [hsz]; omega) (by rw [hsz]; omega) ?_ (by rw [hc]; exact h)
    rw [hsz]
    have hp : ((#[(0, x)] : Array (Nat × Operand)).map fun (i, x) => (i, a.eval x)).toList = ([Value.agg cs].zipIdx 0).map fun x => (x.2, x.1) := by simp [hx]
    rw [hp]
    exact Great.fill_whole hs [Value.agg cs] _ (fun v hv' => by rw [List.mem_singleton.1 hv']; simpa [Value.cells] using hv) (by simp)
theorem step_val (hg : o.guard = none) (v : Value) (w' : World) (hr : (execOp a.eval o).run P w = .ok (.value v) w') (hK : K (a.put o.dst v) w') : if Region.wanted o (yielded ops a.tmps) = true then Oper.wp P o a w K Q else E := by
  rw [if_pos (by simp [Region.wanted, hg])]
  unfold Oper.wp
  rw [hr]
  exact hK
end
end Go.Proofs.Ytcaocnlchfbeaaa.Mk

/- What a function hands back where a result lies in a cell of its own. Over any program; no condition. -/
namespace Go.Proofs.Ytcaocnlchfbeaaa.Mk
open Go.RowKit
section
variable {P : Program} {fn : Func} {tmps : Array Value} {w : World}
theorem results_cell (a : Tmp) (t : TypeId) (p : Addr) (v : Value) (hr : fn.results = #[.cell a t]) (hp : tmps.getD a undef = .pointer (some p)) (hl : (loadVar t p).run P w = .ok v w) : (results fn tmps).run P w = .ok v w := by
  have hp' : tmps[a]?.getD undef = .pointer (some p) := by simpa using hp
  simp [results, hr, hp', asAddr, hl]
theorem results_tmp_cell (x a : Tmp) (t : TypeId) (p : Addr) (v : Value) (hr : fn.results = #[.tmp x, .cell a t]) (hp : tmps.getD a undef = .pointer (some p)) (hl : (loadVar t p).run P w = .ok v w) : (results fn tmps).run P w = .ok (.tuple #[tmps.getD x undef, v]) w := by
  have hp' : tmps[a]?.getD undef = .pointer (some p) := by simpa using hp
  simp [results, hr, hp', asAddr, hl, Result.andThen]
theorem res_cell_tmp (a x : Tmp) (t : TypeId) (p : Addr) (v : Value) (hr : fn.results = #[.cell a t, .tmp x]) (hp : tmps.getD a undef = .pointer (some p)) (hl : (loadVar t p).run P w = .ok v w) : (results fn tmps).run P w = .ok (.tuple #[v, tmps.getD x undef]) w := by
  have hp' : tmps[a]?.getD undef = .pointer (some p) := by simpa using hp
  simp [results, hr, hp', asAddr, hl, Result.andThen]
theorem results_cell_cell (a b : Tmp) (t u : TypeId) (p q : Addr) (v y : Value) (hr : fn.results = #[.cell a t, .cell b u]) (hp : tmps.getD a undef = .pointer (some p)) (hq : tmps.getD b undef = .pointer (some q)) (hl : (loadVar t p).run P w = .ok v w) (hl2 : (loadVar u q).run P w = .ok y w) :
    (results fn tmps).run P w = .ok (.tuple #[v, y]) w := by
  have hp' : tmps[a]?.getD undef = .pointer (some p) := by simpa using hp
  have hq' : tmps[b]?.getD undef = .pointer (some q) := by simpa using hq
  simp [results, hr, hp', hq', asAddr, hl, hl2, Result.andThen]
theorem res_cell_cell_tmp (a b x : Tmp) (t u : TypeId) (p q : Addr) (v y : Value) (hr : fn.results = #[.cell a t, .cell b u, .tmp x]) (hp : tmps.getD a undef = .pointer (some p)) (hq : tmps.getD b undef = .pointer (some q)) (hl : (loadVar t p).run P w = .ok v w) (hl2 : (loadVar u q).run P w = .ok y w) :
    (results fn tmps).run P w = .ok (.tuple #[v, y, tmps.getD x undef]) w := by
  have hp' : tmps[a]?.getD undef = .pointer (some p) := by simpa using hp
  have hq' : tmps[b]?.getD undef = .pointer (some q) := by simpa using hq
  simp [results, hr, hp', hq', asAddr, hl, hl2, Result.andThen]
end
end Go.Proofs.Ytcaocnlchfbeaaa.Mk

/- What a struct literal and a store into a part of a block come to. Over any program; no condition. -/
namespace Go.Proofs.Ytcaocnlchfbeaaa.Mk
open Go.RowKit
/-- one part more is laid -/
theorem fill_part (place : Nat → Option (Nat × Nat)) (cells vs : List Value) (i off : Nat) (v : Value) (hv : v.cells = vs.toArray) (hp : place i = some (off, vs.length)) (hle : off + vs.length ≤ cells.length) (rest : List (Nat × Value)) :
    Instr.fill place cells.toArray ((i, v) :: rest) = Instr.fill place (cells.take off ++ vs ++ cells.drop (off + vs.length)).toArray rest := by
  conv => lhs; unfold Instr.fill
  simp only [hp, hv, List.size_toArray]
  rw [if_neg (by simp; omega)]
  congr 1
  rw [← Array.foldl_toList, Array.toList_zipIdx]
  obtain ⟨g1, g2⟩ := Great.foldl_set off vs 0 cells.toArray
  apply Array.ext_getElem?
  intro k
  rw [List.toList_toArray]
  rw [g2 k]
  simp only [Nat.add_zero, List.size_toArray, List.getElem?_toArray]
  have hl : (cells.take off ++ vs).length = off + vs.length := by rw [List.length_append, List.length_take]; omega
  by_cases h1 : off ≤ k ∧ k < off + vs.length ∧ k < cells.length
  · rw [if_pos h1, List.getElem?_append_left (by omega), List.getElem?_append_right (by rw [List.length_take]; omega), List.length_take, Nat.min_eq_left (by omega)]
  · rw [if_neg h1]
    by_cases h2 : k < off
    · rw [List.getElem?_append_left (by omega), List.getElem?_append_left (by rw [List.length_take]; omega), List.getElem?_take, if_pos h2]
    · rw [List.getElem?_append_right (by omega), hl, List.getElem?_drop]
      congr 1
      omega
theorem fill_end (place : Nat → Option (Nat × Nat)) (cells : Array Value) : Instr.fill place cells [] = some cells := rfl
section
variable {P : Program}
/-- a store into a part of a block that is known whole -/
theorem run_storeAt_part (w : World) (g o : Nat) (t ty : TypeId) (old vs : List Value) (hg : w.heap[g]? = some (.cells old.toArray t (0, 0))) (hi : (P.info? ty).map (·.size) = some vs.length) (hle : o + vs.length ≤ old.length) (h1 : ∀ v ∈ vs, v.oneCell' = true) :
    (Instr.storeAt ty (.pointer (some ⟨g, o, none⟩)) (.agg vs.toArray)).run P w = .ok () (w.setRow g (old.take o ++ vs ++ old.drop (o + vs.length)).toArray) := by
  have hst := run_storeCells_at (P := P) g o t vs 0 old.toArray w hg (by simpa using hle) h1
  simp only [Nat.add_zero] at hst
  cases hq : P.info? ty with
  | none => simp [hq] at hi
  | some i =>
    simp [hq] at hi
    simp [Instr.storeAt, Instr.sureAddr, storeVar, Value.cells, sizeOf, typeInfo, hq, hi, hst]
theorem wpList_buildV {ops : Array Oper} {rest : List Oper} {o : Oper} {a : Act} {w : World} {Q : Exit → Act → World → Prop} (hg : o.guard = none) (t : TypeId) (parts : Array (Nat × Operand)) (ho : o.op = .build t parts)
    (vals : Array (Nat × Value)) (hp : (parts.map fun (i, x) => (i, a.eval x)) = vals) (v : Value) (hr : (Instr.build t vals).run P w = .ok v w) (h : wpList P ops Q rest (a.put o.dst v) w) : wpList P ops Q (o :: rest) a w :=
  wpList_plain hg fun _ hK => by
    unfold Oper.wp execOp
    simp only [ho, hp, Sem.run_bind, hr, Result.andThen_ok]
    exact hK _ _ h
theorem wpList_moveV {ops : Array Oper} {rest : List Oper} {o : Oper} {a : Act} {w : World} {Q : Exit → Act → World → Prop} (hg : o.guard = none) (x : Operand) (ho : o.op = .move x) (v : Value) (hx : a.eval x = v) (h : wpList P ops Q rest (a.put o.dst v) w) : wpList P ops Q (o :: rest) a w :=
  wpList_plain hg fun _ hK => by
    unfold Oper.wp execOp
    simp only [ho, hx, Sem.run_pure]
    exact hK _ _ h
end
end Go.Proofs.Ytcaocnlchfbeaaa.Mk

/- Plain laws on the digits of a number to any base, the lowest first; on bits. No condition. -/
namespace Go.Proofs.Ytcaocnlchfbeaaa.Ul
/-- the i-th digit to base B -/
def dg (B X i : Nat) : Nat := X / B ^ i % B
set_option linter.unusedVariables false
section
variable {B : Nat}
theorem dg_lt (hB : 0 < B) (X i : Nat) : dg B X i < B := Nat.mod_lt _ hB
theorem dg_hi (hB : 0 < B) (X m : Nat) : X / B ^ m = X / B ^ (m + 1) * B + dg B X m := by
  have h := Nat.div_add_mod (X / B ^ m) B
  rw [Nat.div_div_eq_div_mul, ← Nat.pow_succ, Nat.mul_comm] at h
  exact h.symm
theorem mod_succ (hB : 0 < B) (X k : Nat) : X % B ^ (k + 1) = X % B ^ k + B ^ k * dg B X k := by
  rw [Nat.pow_succ, Nat.mod_mul]
  rfl
theorem dg_cmp (hB : 0 < B) {X Y m : Nat} (h : X / B ^ (m + 1) = Y / B ^ (m + 1)) : (dg B X m < dg B Y m → X < Y) ∧ (dg B X m = dg B Y m → X / B ^ m = Y / B ^ m) := by
  have h1 := dg_hi hB X m
  have h2 := dg_hi hB Y m
  rw [h] at h1
  refine ⟨fun hl => ?_, fun he => by rw [h1, h2, he]⟩
  apply Nat.lt_of_not_le
  intro hle
  have := Nat.div_le_div_right (c := B ^ m) hle
  omega
theorem dg_add (hB : 0 < B) (X Y k : Nat) : dg B (X + Y) k = (dg B X k + dg B Y k + (X % B ^ k + Y % B ^ k) / B ^ k) % B ∧
    (X % B ^ (k + 1) + Y % B ^ (k + 1)) / B ^ (k + 1) = (dg B X k + dg B Y k + (X % B ^ k + Y % B ^ k) / B ^ k) / B := by
  have hP : 0 < B ^ k := Nat.pow_pos hB
  constructor
  · have e : (X + Y) / B ^ k = X / B ^ k + Y / B ^ k + (X % B ^ k + Y % B ^ k) / B ^ k := by
      have e1 : X + Y = (X % B ^ k + Y % B ^ k) + B ^ k * (X / B ^ k + Y / B ^ k) := by
        have h1 := Nat.div_add_mod X (B ^ k)
        have h2 := Nat.div_add_mod Y (B ^ k)
        rw [Nat.mul_add]
        omega
      rw [e1, Nat.add_mul_div_left _ _ hP]
      omega
    unfold dg
    rw [e]
    simp only [Nat.add_mod, Nat.mod_mod]
  · rw [mod_succ hB X k, mod_succ hB Y k]
    have e : X % B ^ k + B ^ k * dg B X k + (Y % B ^ k + B ^ k * dg B Y k) = (X % B ^ k + Y % B ^ k) + B ^ k * (dg B X k + dg B Y k) := by
      rw [Nat.mul_add]
      omega
    rw [e, Nat.pow_succ, ← Nat.div_div_eq_div_mul, Nat.add_mul_div_left _ _ hP, Nat.add_comm]
theorem dg_mod (hB : 0 < B) (X n i : Nat) (h : i < n) : dg B (X % B ^ n) i = dg B X i := by
  unfold dg
  have e : B ^ n = B ^ i * (B * B ^ (n - i - 1)) := by rw [← Nat.pow_succ', ← Nat.pow_add]; congr 1; omega
  rw [e, Nat.mod_mul_right_div_self, Nat.mod_mul_right_mod]
theorem dg_ext (hB : 0 < B) {X Y : Nat} : ∀ n, (∀ i, i < n → dg B X i = dg B Y i) → X % B ^ n = Y % B ^ n
  | 0, _ => by simp [Nat.mod_one]
  | n + 1, h => by rw [mod_succ hB, mod_succ hB, dg_ext hB n (fun i hi => h i (by omega)), h n (by omega)]
theorem dg_ext' (hB : 0 < B) {X Y n : Nat} (hx : X < B ^ n) (hy : Y < B ^ n) (h : ∀ i, i < n → dg B X i = dg B Y i) : X = Y := by
  have := dg_ext hB n h
  rwa [Nat.mod_eq_of_lt hx, Nat.mod_eq_of_lt hy] at this
theorem lex_lt (hB : 0 < B) {P a b x y : Nat} (hx : x < P) (hy : y < P) : x + P * a < y + P * b ↔ a < b + (if x < y then 1 else 0) := by
  have key : ∀ {a b x y : Nat}, x < P → a < b → x + P * a < y + P * b := by
    intro a b x y hx h
    have := Nat.mul_le_mul_left P (show a + 1 ≤ b by omega)
    rw [Nat.mul_succ] at this
    omega
  rcases Nat.lt_trichotomy a b with h | h | h
  · exact ⟨fun _ => by omega, fun _ => key hx h⟩
  · subst h
    by_cases hxy : x < y
    · rw [if_pos hxy]; omega
    · rw [if_neg hxy]; omega
  · have h2 := key (y := x) hy h
    constructor
    · intro h3; omega
    · intro h3
      split at h3 <;> omega
/-- what is borrowed below a digit -/
theorem borrow_succ (hB : 0 < B) (X Y k : Nat) : (X % B ^ (k + 1) < Y % B ^ (k + 1)) ↔ dg B X k < dg B Y k + (if X % B ^ k < Y % B ^ k then 1 else 0) := by
  have hP : 0 < B ^ k := Nat.pow_pos hB
  rw [mod_succ hB X k, mod_succ hB Y k]
  exact lex_lt hB (Nat.mod_lt _ hP) (Nat.mod_lt _ hP)
theorem dg_sub (hB : 0 < B) {X Y n k : Nat} (hY : Y ≤ B ^ n) (hk : k < n) : dg B X k = (dg B (X + B ^ n - Y) k + dg B Y k + (if X % B ^ k < Y % B ^ k then 1 else 0)) % B := by
  have hP : 0 < B ^ k := Nat.pow_pos hB
  have hs : X + B ^ n - Y + Y = X + B ^ n := by omega
  have h1 := (dg_add hB (X + B ^ n - Y) Y k).1
  rw [hs] at h1
  have e0 : dg B (X + B ^ n) k = dg B X k := by
    rw [← dg_mod hB (X + B ^ n) n k hk, Nat.add_mod_right, dg_mod hB X n k hk]
  rw [e0] at h1
  rw [h1]
  have e1 : B ^ n = B ^ k * B ^ (n - k) := by rw [← Nat.pow_add]; congr 1; omega
  have e2 : ((X + B ^ n - Y) % B ^ k + Y % B ^ k) % B ^ k = X % B ^ k := by
    rw [← Nat.add_mod, hs, e1, Nat.add_mul_mod_self_left]
  have l1 := Nat.mod_lt (X + B ^ n - Y) hP
  have l2 := Nat.mod_lt Y hP
  have l3 := Nat.mod_lt X hP
  generalize (X + B ^ n - Y) % B ^ k = d at *
  generalize Y % B ^ k = y at *
  generalize X % B ^ k = x at *
  generalize B ^ k = P at *
  congr 2
  by_cases hdy : d + y < P
  · rw [Nat.mod_eq_of_lt hdy] at e2
    rw [Nat.div_eq_of_lt hdy, if_neg (by omega)]
  · have e3 : d + y = (d + y - P) + P := by omega
    have e4 : (d + y) % P = d + y - P := by
      have : (d + y - P + P) % P = d + y - P := by rw [Nat.add_mod_right, Nat.mod_eq_of_lt (by omega)]
      rwa [← e3] at this
    rw [e4] at e2
    have e5 : (d + y) / P = 1 := by
      have : (d + y - P + P) / P = 1 := by rw [Nat.add_div_right _ hP, Nat.div_eq_of_lt (by omega)]
      rwa [← e3] at this
    rw [e5, if_pos (by omega)]
theorem dg_zero (i : Nat) : dg B 0 i = 0 := by simp [dg]
theorem dg_big {X i : Nat} (h : X < B ^ i) : dg B X i = 0 := by
  unfold dg
  rw [Nat.div_eq_of_lt h, Nat.zero_mod]
end
/-! ### lists of digits -/
def val (B : Nat) : List Nat → Nat
  | [] => 0
  | a :: l => a + B * val B l
def digs (B n X : Nat) : List Nat := (List.range n).map (dg B X)
theorem digs_len (B n X : Nat) : (digs B n X).length = n := by simp [digs]
theorem digs_get (B n X i : Nat) (h : i < n) : (digs B n X)[i]? = some (dg B X i) := by simp [digs, h]
theorem val_lt {B : Nat} : ∀ (l : List Nat), (∀ x ∈ l, x < B) → val B l < B ^ l.length
  | [], _ => by simp [val]
  | a :: l, h => by
    have h1 := val_lt l (fun x hx => h x (by simp [hx]))
    have h2 := h a (by simp)
    rw [val, List.length_cons, Nat.pow_succ']
    have := Nat.mul_le_mul_left B (show val B l + 1 ≤ B ^ l.length by omega)
    rw [Nat.mul_succ] at this
    omega
theorem dg_val {B : Nat} : ∀ (l : List Nat) (i : Nat), (∀ x ∈ l, x < B) → (h : i < l.length) → dg B (val B l) i = l[i]
  | [], i, _, h => by simp at h
  | a :: l, 0, hl, _ => by
    have := hl a (by simp)
    rw [val, dg, Nat.pow_zero, Nat.div_one, Nat.add_mul_mod_self_left, Nat.mod_eq_of_lt this]
    rfl
  | a :: l, i + 1, hl, h => by
    have ha := hl a (by simp)
    have ih := dg_val l i (fun x hx => hl x (by simp [hx])) (by simpa using h)
    rw [List.getElem_cons_succ, ← ih, val, dg, Nat.pow_succ', ← Nat.div_div_eq_div_mul, Nat.add_mul_div_left _ _ (by omega), Nat.div_eq_of_lt ha, Nat.zero_add]
    rfl
theorem digs_val {B : Nat} (l : List Nat) (h : ∀ x ∈ l, x < B) : digs B l.length (val B l) = l := by
  apply List.ext_getElem
  · simp [digs]
  · intro i h1 h2
    simp only [digs, List.getElem_map, List.getElem_range]
    exact dg_val l i h h2
theorem val_digs {B : Nat} (hB : 0 < B) (n X : Nat) (h : X < B ^ n) : val B (digs B n X) = X := by
  have hl : ∀ x ∈ digs B n X, x < B := by
    intro x hx
    obtain ⟨i, _, rfl⟩ := List.mem_map.1 hx
    exact dg_lt hB X i
  refine dg_ext' hB (n := n) ?_ h ?_
  · have := val_lt _ hl
    rwa [digs_len] at this
  · intro i hi
    have := dg_val (digs B n X) i hl (by rw [digs_len]; exact hi)
    rw [this]
    simp [digs]
/-! ### how many bits -/
def bl (x : Nat) : Nat := if h : x = 0 then 0 else bl (x / 2) + 1
termination_by x
decreasing_by omega
theorem bl_zero : bl 0 = 0 := by rw [bl]; simp
theorem bl_pos (x : Nat) (h : 0 < x) : bl x = bl (x / 2) + 1 := by rw [bl, dif_neg (by omega)]
theorem bl_le (n : Nat) : ∀ x, bl x ≤ n ↔ x < 2 ^ n := by
  induction n with
  | zero =>
    intro x
    by_cases h : x = 0
    · subst h; simp [bl_zero]
    · rw [bl_pos x (by omega)]; omega
  | succ n ih =>
    intro x
    by_cases h : x = 0
    · subst h; simp [bl_zero, Nat.pow_pos]
    · rw [bl_pos x (by omega)]
      have := ih (x / 2)
      rw [Nat.pow_succ]
      omega
theorem bl_eq {x n : Nat} (h1 : x < 2 ^ n) (h2 : 0 < n → 2 ^ (n - 1) ≤ x) : bl x = n := by
  have a := (bl_le n x).2 h1
  by_cases hn : 0 < n
  · have b := mt (bl_le (n - 1) x).1 (by have := h2 hn; omega)
    omega
  · omega
theorem bl_split {X m s : Nat} (h : X / 2 ^ s = m) (h0 : m ≠ 0) : bl X = s + bl m := by
  have key : ∀ j, X < 2 ^ (s + j) ↔ m < 2 ^ j := by
    intro j
    rw [← h, Nat.div_lt_iff_lt_mul (Nat.pow_pos (by decide)), ← Nat.pow_add, Nat.add_comm]
  have hm : 0 < bl m := by
    apply Nat.pos_of_ne_zero
    intro e
    have := (bl_le 0 m).1 (by omega)
    omega
  refine bl_eq ((key _).2 ((bl_le _ _).1 (Nat.le_refl _))) (fun _ => ?_)
  rw [show s + bl m - 1 = s + (bl m - 1) by omega]
  apply Nat.le_of_not_lt
  intro hlt
  have := (bl_le _ _).2 ((key _).1 hlt)
  omega
theorem bl_big {X n : Nat} (h : X < 2 ^ n) : bl X ≤ n := (bl_le n X).2 h
/-! ### bits -/
theorem bit_dg (X i : Nat) : (dg 2 X i == 1) = X.testBit i := by
  rw [Nat.testBit_eq_decide_div_mod_eq]
  rfl
theorem dg2 (X i : Nat) : dg 2 X i = if X.testBit i = true then 1 else 0 := by
  have h1 := bit_dg X i
  have h2 := dg_lt (B := 2) (by decide) X i
  rw [← h1]
  by_cases h : dg 2 X i = 1
  · simp [h]
  · have : dg 2 X i = 0 := by omega
    simp [this]
theorem pow_two (s i : Nat) : (2 ^ s) ^ i = 2 ^ (s * i) := (Nat.pow_mul 2 s i).symm
theorem dg_bit (s X i j : Nat) : (dg (2 ^ s) X i).testBit j = (decide (j < s) && X.testBit (s * i + j)) := by
  unfold dg
  rw [pow_two, Nat.testBit_mod_two_pow, Nat.testBit_div_two_pow, Nat.add_comm j]
/-- a digit of what is shifted -/
theorem dg_shr (s X n b i : Nat) (hb : b < s) (hb0 : 0 < b) : dg (2 ^ s) (X / 2 ^ (s * n + b)) i = dg (2 ^ s) X (i + n) / 2 ^ b ||| (dg (2 ^ s) X (i + n + 1) * 2 ^ (s - b)) % 2 ^ s := by
  apply Nat.eq_of_testBit_eq
  intro j
  rw [dg_bit, Nat.testBit_or, Nat.testBit_div_two_pow, Nat.testBit_div_two_pow, dg_bit, Nat.testBit_mod_two_pow, Nat.testBit_mul_two_pow, dg_bit]
  by_cases hj : j < s
  · by_cases h1 : j + b < s
    · have e1 : s * i + j + (s * n + b) = s * (i + n) + (j + b) := by rw [Nat.mul_add]; omega
      have n1 : ¬ s - b ≤ j := by omega
      simp [hj, h1, n1, e1]
    · have e1 : s * i + j + (s * n + b) = s * (i + n + 1) + (j - (s - b)) := by rw [Nat.mul_add, Nat.mul_add]; omega
      have n1 : s - b ≤ j := by omega
      have n2 : j - (s - b) < s := by omega
      simp [hj, h1, n1, n2, e1]
  · have n1 : ¬ j + b < s := by omega
    simp [hj, n1]
theorem dg_shr0 (s X n i : Nat) : dg (2 ^ s) (X / 2 ^ (s * n)) i = dg (2 ^ s) X (i + n) := by
  unfold dg
  rw [pow_two, pow_two, Nat.div_div_eq_div_mul, ← Nat.pow_add, ← Nat.mul_add, Nat.add_comm n i]
/-- digits of what is shifted up -/
theorem dg_shl_low (s X n b i : Nat) (hi : i < n) : dg (2 ^ s) (X * 2 ^ (s * n + b)) i = 0 := by
  apply Nat.eq_of_testBit_eq
  intro j
  rw [dg_bit, Nat.testBit_mul_two_pow, Nat.zero_testBit]
  by_cases hj : j < s
  · have h1 := Nat.mul_le_mul_left s (show i + 1 ≤ n by omega)
    rw [Nat.mul_succ] at h1
    have : ¬ s * n + b ≤ s * i + j := by omega
    simp [this]
  · simp [hj]
theorem dg_shl0 (s X n i : Nat) (hi : n ≤ i) : dg (2 ^ s) (X * 2 ^ (s * n + 0)) i = dg (2 ^ s) X (i - n) := by
  apply Nat.eq_of_testBit_eq
  intro j
  have h1 : s * i = s * (i - n) + s * n := by rw [← Nat.mul_add]; congr 1; omega
  rw [dg_bit, dg_bit, Nat.testBit_mul_two_pow]
  have h2 : s * n + 0 ≤ s * i + j := by omega
  have h3 : s * i + j - (s * n + 0) = s * (i - n) + j := by omega
  simp only [h2, decide_true, Bool.true_and, h3]
theorem dg_shl (s X n b i : Nat) (hb : b < s) (hb0 : 0 < b) (hi : n ≤ i) : dg (2 ^ s) (X * 2 ^ (s * n + b)) i = (dg (2 ^ s) X (i - n) * 2 ^ b) % 2 ^ s ||| (if n < i then dg (2 ^ s) X (i - n - 1) / 2 ^ (s - b) else 0) := by
  apply Nat.eq_of_testBit_eq
  intro j
  have h1 : s * i = s * (i - n) + s * n := by rw [← Nat.mul_add]; congr 1; omega
  rw [dg_bit, Nat.testBit_mul_two_pow, Nat.testBit_or, Nat.testBit_mod_two_pow, Nat.testBit_mul_two_pow, dg_bit]
  by_cases hj : j < s
  · by_cases hbj : b ≤ j
    · have h2 : s * n + b ≤ s * i + j := by omega
      have h3 : s * i + j - (s * n + b) = s * (i - n) + (j - b) := by omega
      have h4 : j - b < s := by omega
      have h5 : (if n < i then dg (2 ^ s) X (i - n - 1) / 2 ^ (s - b) else 0).testBit j = false := by
        split
        · rw [Nat.testBit_div_two_pow, dg_bit, decide_eq_false (by omega), Bool.false_and]
        · exact Nat.zero_testBit j
      rw [h5, h3]
      simp only [hj, h2, hbj, h4, decide_true, Bool.true_and, Bool.or_false]
    · by_cases hni : n < i
      · have hm : s * (i - n) = s * (i - n - 1) + s := by
          rw [show i - n = (i - n - 1) + 1 by omega, Nat.mul_succ]
          rfl
        have h2 : s * n + b ≤ s * i + j := by omega
        have h3 : s * i + j - (s * n + b) = s * (i - n - 1) + (j + (s - b)) := by omega
        have h4 : j + (s - b) < s := by omega
        rw [if_pos hni, Nat.testBit_div_two_pow, dg_bit, h3]
        simp only [hj, h2, hbj, h4, decide_true, decide_false, Bool.true_and, Bool.false_and, Bool.and_false, Bool.false_or]
      · have h2 : ¬ s * n + b ≤ s * i + j := by
          have : i - n = 0 := by omega
          rw [this, Nat.mul_zero] at h1
          omega
        rw [if_neg hni, Nat.zero_testBit]
        simp only [hj, h2, hbj, decide_true, decide_false, Bool.false_and, Bool.and_false, Bool.or_false]
  · have h5 : (if n < i then dg (2 ^ s) X (i - n - 1) / 2 ^ (s - b) else 0).testBit j = false := by
      split
      · rw [Nat.testBit_div_two_pow, dg_bit, decide_eq_false (by omega), Bool.false_and]
      · exact Nat.zero_testBit j
    rw [h5]
    simp only [hj, decide_false, Bool.false_and, Bool.or_false]
theorem bl_shl {X n : Nat} (h : X ≠ 0) : bl (X * 2 ^ n) = n + bl X := bl_split (Nat.mul_div_cancel _ (Nat.pow_pos (by decide))) h
end Go.Proofs.Ytcaocnlchfbeaaa.Ul

/- Arrays of numbers of 64 bits in memory. Over any program; no condition. -/
namespace Go.Proofs.Ytcaocnlchfbeaaa.Ul
open Go.RowKit Go.Proofs.Ytcaocnlchfbeaaa.Mk
/-! ### blocks made one behind the other -/
section
variable (w : World) (a b c d : Obj)
theorem nw1 : (w.alloc a).heap[w.heap.size]? = some a := heap_new w a
theorem nw2 : ((w.alloc a).alloc b).heap[w.heap.size + 1]? = some b := by
  have h := heap_new (w.alloc a) b
  rwa [World.size_alloc] at h
theorem nw3 : (((w.alloc a).alloc b).alloc c).heap[w.heap.size + 1 + 1]? = some c := by
  have h := nw2 (w.alloc a) b c
  rwa [World.size_alloc] at h
theorem nw4 : ((((w.alloc a).alloc b).alloc c).alloc d).heap[w.heap.size + 1 + 1 + 1]? = some d := by
  have h := nw3 (w.alloc a) b c d
  rwa [World.size_alloc] at h
theorem bl1 : Below w.heap.size w (w.alloc a) := (Below.refl _ _).alloc (Nat.le_refl _) _
theorem bl2 : Below w.heap.size w ((w.alloc a).alloc b) := (bl1 w a).alloc (by simp) _
theorem bl3 : Below w.heap.size w (((w.alloc a).alloc b).alloc c) := (bl2 w a b).alloc (by simp <;> omega) _
theorem bl4 : Below w.heap.size w ((((w.alloc a).alloc b).alloc c).alloc d) := (bl3 w a b c).alloc (by simp <;> omega) _
end
/-- n cells: what f says -/
def FC (n : Nat) (f : Nat → Nat) : List Value := (List.range n).map fun i => .int .u64 (f i : Nat)
theorem FC_len (n : Nat) (f : Nat → Nat) : (FC n f).length = n := by simp [FC]
theorem FC_get {n i : Nat} (f : Nat → Nat) (h : i < n) : (FC n f)[i]? = some (.int .u64 (f i : Nat)) := by simp [FC, h]
theorem FC_ext {n : Nat} {f g : Nat → Nat} (h : ∀ i, i < n → f i = g i) : FC n f = FC n g := by
  unfold FC
  apply List.map_congr_left
  intro i hi
  rw [h i (List.mem_range.1 hi)]
def upd (f : Nat → Nat) (k v : Nat) : Nat → Nat := fun i => if i = k then v else f i
theorem FC_set {n k : Nat} (f : Nat → Nat) (v : Nat) (_h : k < n) : (FC n f).set k (.int .u64 (v : Nat)) = FC n (upd f k v) := by
  apply List.ext_getElem
  · simp [FC]
  · intro i h1 h2
    simp only [FC, List.getElem_set, List.getElem_map, List.getElem_range, upd]
    by_cases e : k = i
    · rw [if_pos e, if_pos e.symm]
    · rw [if_neg e, if_neg (Ne.symm e)]
theorem upd_lt (g : Nat → Nat) (k : Nat) : upd (fun i => if i < k then g i else 0) k (g k) = fun i => if i < k + 1 then g i else 0 := by
  funext i
  unfold upd
  by_cases h : i = k
  · subst h
    simp
  · rw [if_neg h]
    simp only
    by_cases h2 : i < k
    · rw [if_pos h2, if_pos (by omega)]
    · rw [if_neg h2, if_neg (by omega)]
theorem FC_one (n : Nat) (f : Nat → Nat) : (FC n f).toArray.all (·.oneCell') = true := by simp [FC, Value.oneCell']
theorem FC_size (n : Nat) (f : Nat → Nat) : (FC n f).toArray.size = n := by rw [List.size_toArray, FC_len]
/-- the i-th limb -/
def lb (X i : Nat) : Nat := dg (2 ^ 64) X i
theorem lb_lt (X i : Nat) : lb X i < 18446744073709551616 := dg_lt (by decide) X i
def UC (n X : Nat) : List Value := FC n (lb X)
def UV (n X : Nat) : Value := .agg (FC n (lb X)).toArray
/-- block g holds n cells: what f says -/
def FB (g n : Nat) (f : Nat → Nat) (t : TypeId) (w : World) : Prop := w.heap[g]? = some (.cells (FC n f).toArray t (0, 0))
section
variable {g n : Nat} {f : Nat → Nat} {t : TypeId} {w : World}
theorem FB.cell (h : FB g n f t w) {i : Nat} (hi : i < n) : w.cell? ⟨g, i, none⟩ = some (.int .u64 (f i : Nat)) := by
  rw [cell_of_row _ _ _ _ _ _ h, List.getElem?_toArray, FC_get f hi]
theorem FB.free (h : FB g n f t w) (i : Nat) : w.frozen? ⟨g, i, none⟩ = false := by
  unfold FB at h
  simp [World.frozen?, h]
theorem FB.lt (h : FB g n f t w) : g < w.heap.size := (Array.getElem?_eq_some_iff.1 h).1
theorem FB.keep {w' : World} (h : FB g n f t w) (hb : Below w.heap.size w w') : FB g n f t w' := (hb.block g h.lt).trans h
theorem FB.set (h : FB g n f t w) {k : Nat} (v : Nat) (hk : k < n) : FB g n (upd f k v) t (w.setCell ⟨g, k, none⟩ (.int .u64 (v : Nat))) := by
  unfold FB at h ⊢
  rw [← FC_set f v hk]
  simp [World.setCell, Array.getElem?_modify, h]
theorem FB.other {g' k : Nat} (h : FB g n f t w) (hg : g ≠ g') (u : Value) : FB g n f t (w.setCell ⟨g', k, none⟩ u) := (Below.heap_setCell _ _ _ _ hg).trans h
theorem FB.ext {f' : Nat → Nat} (h : FB g n f t w) (he : ∀ i, i < n → f i = f' i) : FB g n f' t w := by
  unfold FB at h ⊢
  rw [← FC_ext he]
  exact h
theorem FB.drew (h : FB g n f t w) : FB g n f t w.drew := h
theorem FB.drewN (h : FB g n f t w) (m : Nat) : FB g n f t (w.drewN m) := h
theorem FB.alloc (h : FB g n f t w) (o : Obj) : FB g n f t (w.alloc o) := (Below.heap_alloc _ _ _ h.lt).trans h
theorem below_setRow {B : Nat} {w w' : World} {g : Nat} {cs : Array Value} (h : Below B w w') (hg : B ≤ g) : Below B w (w'.setRow g cs) :=
  ⟨h.os, h.tape, h.output, by simpa [World.setRow] using h.size, fun k hk => (setRow_other _ _ _ _ (by omega)).trans (h.block k hk)⟩
end
end Go.Proofs.Ytcaocnlchfbeaaa.Ul

/- Known blocks beside what is elder. Over any program; no condition. -/
namespace Go.Proofs.Ytcaocnlchfbeaaa.Mk
open Go.RowKit Go.Proofs.Ytcaocnlchfbeaaa.Ul
/-- known blocks, and nothing elder is touched -/
def SQ (L : List (Nat × Obj)) (w w' : World) : Prop := KQ L w' ∧ Below w.heap.size w w'
theorem SQ.keep {L : List (Nat × Obj)} {w w1 w2 : World} (h : SQ L w w1) (hb : Below w1.heap.size w1 w2) : SQ L w w2 := ⟨h.1.keep hb, below_up h.2 hb⟩
theorem SQ.row {L : List (Nat × Obj)} {w w1 : World} {g : Nat} {cs : Array Value} (h : SQ L w w1) (hg : w.heap.size ≤ g) (hL : ∀ p ∈ L, p.1 ≠ g) : SQ L w (w1.setRow g cs) :=
  ⟨fun p hp => (setRow_other _ _ _ _ (hL p hp)).trans (h.1 p hp), below_setRow h.2 hg⟩
theorem SQ.drew {L : List (Nat × Obj)} {w w1 : World} (h : SQ L w w1) : SQ L w w1.drew := ⟨h.1, h.2.drew⟩
theorem SQ.alloc {L : List (Nat × Obj)} {w w1 : World} (h : SQ L w w1) (o : Obj) : SQ ((w1.heap.size, o) :: L) w (w1.alloc o) := ⟨h.1.alloc o, h.2.alloc h.2.size o⟩
theorem SQ.drewN {L : List (Nat × Obj)} {w w1 : World} (h : SQ L w w1) (n : Nat) : SQ L w (w1.drewN n) := ⟨h.1, bdN h.2 n⟩
theorem SQ.new (w : World) (o : Obj) : SQ [(w.heap.size, o)] w (w.alloc o) := ⟨KQ.cons (nw1 _ _) (KQ.nil _), bl1 _ _⟩
theorem SQ.new2 (w : World) (a b : Obj) : SQ [(w.heap.size + 1, b), (w.heap.size, a)] w ((w.alloc a).alloc b) := ⟨KQ.cons (nw2 _ _ _) (KQ.cons ((Below.heap_alloc _ _ _ (by simp)).trans (nw1 _ _)) (KQ.nil _)), bl2 _ _ _⟩
theorem SQ.nil (w : World) : SQ [] w w := ⟨KQ.nil _, Below.refl _ _⟩
theorem SQ.add {L : List (Nat × Obj)} {w w1 : World} {n : Nat} {o : Obj} (h : SQ L w w1) (k : w1.heap[n]? = some o) : SQ ((n, o) :: L) w w1 := ⟨KQ.cons k h.1, h.2⟩
theorem SQ.put {L : List (Nat × Obj)} {w w1 : World} {n : Nat} {cs c' : Array Value} {t : TypeId} (h : SQ ((n, .cells cs t (0, 0)) :: L) w w1) (hn : w.heap.size ≤ n) (hL : ∀ p ∈ L, p.1 ≠ n) : SQ ((n, .cells c' t (0, 0)) :: L) w (w1.setRow n c') :=
  ⟨h.1.tail.row h.1.head hL, below_setRow h.2 hn⟩
theorem SQ.swap {L : List (Nat × Obj)} {w w1 : World} {p q : Nat × Obj} (h : SQ (p :: q :: L) w w1) : SQ (q :: p :: L) w w1 := ⟨fun x hx => h.1 x (by
  simp only [List.mem_cons] at hx ⊢
  rcases hx with a | a | a
  · exact .inr (.inl a)
  · exact .inl a
  · exact .inr (.inr a)), h.2⟩
theorem SQ.alloc2 {L : List (Nat × Obj)} {w w1 : World} (h : SQ L w w1) (a b : Obj) : SQ ((w1.heap.size + 1, b) :: (w1.heap.size, a) :: L) w ((w1.alloc a).alloc b) := by
  have := (h.alloc a).alloc b
  rwa [World.size_alloc] at this
theorem SQ.sub {L L' : List (Nat × Obj)} {w w1 : World} (h : SQ L w w1) (hs : ∀ p ∈ L', p ∈ L) : SQ L' w w1 := ⟨fun p hp => h.1 p (hs p hp), h.2⟩
theorem FB.row' {g g' n : Nat} {f : Nat → Nat} {t : TypeId} {w : World} {cs : Array Value} (h : FB g n f t w) (hg : g ≠ g') : FB g n f t (w.setRow g' cs) := (setRow_other _ _ _ _ hg).trans h
theorem SQ.tail {L : List (Nat × Obj)} {w w1 : World} {p : Nat × Obj} (h : SQ (p :: L) w w1) : SQ L w w1 := ⟨h.1.tail, h.2⟩
section
variable {L : List (Nat × Obj)} {w w1 : World} {p0 p1 p2 p3 p4 : Nat × Obj} {n : Nat} {o : Obj}
theorem SQ.a0 (h : SQ ((n, o) :: L) w w1) : w1.heap[n]? = some o := h.1.head
theorem SQ.a1 (h : SQ (p0 :: (n, o) :: L) w w1) : w1.heap[n]? = some o := h.1.tail.head
theorem SQ.a2 (h : SQ (p0 :: p1 :: (n, o) :: L) w w1) : w1.heap[n]? = some o := h.1.tail.tail.head
theorem SQ.a3 (h : SQ (p0 :: p1 :: p2 :: (n, o) :: L) w w1) : w1.heap[n]? = some o := h.1.tail.tail.tail.head
theorem SQ.a4 (h : SQ (p0 :: p1 :: p2 :: p3 :: (n, o) :: L) w w1) : w1.heap[n]? = some o := h.1.tail.tail.tail.tail.head
theorem SQ.a5 (h : SQ (p0 :: p1 :: p2 :: p3 :: p4 :: (n, o) :: L) w w1) : w1.heap[n]? = some o := h.1.tail.tail.tail.tail.tail.head
end
end Go.Proofs.Ytcaocnlchfbeaaa.Mk
