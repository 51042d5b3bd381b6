/- Laws on whole arrays, slices of flat elements and quiet regions, over any program. Used by the walks; no condition. -/
import Derived.WalkKit
import Derived.WalkSpells
import Derived.WalkLawsBesides
import Derived.Deep.MidRow
import Derived.Deep.WholeRow
import Derived.Stop.BytesEq
import Derived.Lib.Hide
import Derived.Deep.QuietTactic
import Derived.BigQuiet
import Derived.Laws.AppendOwn
import Derived.Great.BuildSlice
import Derived.Lib.QuietBelow
namespace Go.Proofs.YtihdeanfcbiflaaDoor.Mk
open Go.RowKit
open Extern.Stop (cell)

/-! ### hashes: lists of 32 bytes -/
def hc (h : List UInt8) : List Value := h.map cell
def hv (h : List UInt8) : Value := .agg (hc h).toArray
theorem hc_len (h : List UInt8) : (hc h).length = h.length := by simp [hc]
theorem hc_one (h : List UInt8) : (hc h).toArray.all (·.oneCell') = true := by simp [hc, cell, Value.oneCell']
theorem hc_one' (h : List UInt8) : ∀ u ∈ hc h, u.oneCell' = true := by simp [hc, cell, Value.oneCell']

/-! ### ranges -/
theorem range_below {w w' : World} {b o : Nat} {cs : List Value} (h : w.rangeAt b o cs) (hb : Below w.heap.size w w') : w'.rangeAt b o cs := fun j v hv => by
  have h1 := h j v hv
  rw [hb.cell (p := ⟨b, o + j, none⟩) (block_lt_of_cell h1)]
  exact h1
theorem range_row {w : World} {b : Nat} {cs : List Value} {t : TypeId} {fr : Nat × Nat} (h : w.heap[b]? = some (.cells cs.toArray t fr)) : w.rangeAt b 0 cs := fun j v hv => by
  rw [cell_of_row w b (0 + j) _ t fr h]
  simpa using hv
theorem below_of {B : Nat} {w w1 w2 : World} (h1 : Below B w w1) (h2 : Below w1.heap.size w1 w2) (hB : B ≤ w1.heap.size) : Below B w w2 := h1.trans (h2.mono hB)
theorem below_up {w w1 w2 : World} (h1 : Below w.heap.size w w1) (h2 : Below w1.heap.size w1 w2) : Below w.heap.size w w2 := h1.trans (h2.mono h1.size)

theorem bdN {B : Nat} {w w1 : World} (h : Below B w w1) (n : Nat) : Below B w (w1.drewN n) := ⟨h.os, h.tape, h.output, h.size, h.block⟩

/-! ### slices of flat elements -/
structure SL {α : Type} (enc : α → List Value) (sz : Nat) (w : World) (v : Value) (l : List α) : Prop where
  len : ∀ x ∈ l, (enc x).length = sz
  bd : l.length ≤ 140737488355328
  ex : ∃ A c, v = .slice A l.length c ∧ l.length ≤ c ∧ c ≤ maxLen ∧ (0 < l.length → ∃ b o, A = some ⟨b, o, none⟩ ∧ ∀ k x, l[k]? = some x → w.rangeAt b (o + k * sz) (enc x))
section
variable {α : Type} {enc : α → List Value} {sz : Nat} {w w' : World} {v : Value} {l : List α}
theorem SL.below (h : SL enc sz w v l) (hb : Below w.heap.size w w') : SL enc sz w' v l := by
  obtain ⟨h1, h2, A, c, h3, h4, h5, h6⟩ := h
  refine ⟨h1, h2, A, c, h3, h4, h5, fun hp => ?_⟩
  obtain ⟨b, o, h7, h8⟩ := h6 hp
  exact ⟨b, o, h7, fun k x hk => range_below (h8 k x hk) hb⟩
theorem SL.nil (enc : α → List Value) (sz : Nat) (w : World) : SL enc sz w (.slice none 0 0) [] :=
  ⟨fun x hx => by simp at hx, by simp, none, 0, rfl, Nat.le_refl _, by simp [maxLen], fun h => by simp at h⟩
/-- an own row reads -/
theorem SL.of_owns {base : Nat} {e : TypeId} (h : w.ownsRow base e sz v l.length (l.flatMap enc)) (hl : ∀ x ∈ l, (enc x).length = sz) (hb : l.length ≤ 140737488355328) : SL enc sz w v l := by
  obtain ⟨h1, h2⟩ := h
  rcases h2 with ⟨rfl, h0⟩ | ⟨g, cap, cur, rfl, hg, hh, hn, hm, hs, ht⟩
  · obtain rfl : l = [] := List.eq_nil_of_length_eq_zero h0
    exact SL.nil _ _ _
  · refine ⟨hl, hb, some ⟨g, 0, none⟩, cap, rfl, hn, hm, fun _ => ⟨g, 0, rfl, fun k x hk j u hj => ?_⟩⟩
    have hkl : k < l.length := (List.getElem?_eq_some_iff.1 hk).1
    have hjl : j < sz := by rw [← hl x (List.mem_of_getElem? hk)]; exact (List.getElem?_eq_some_iff.1 hj).1
    rw [cell_of_row w g _ cur e (0, 0) hh]
    have hlt : k * sz + j < l.length * sz := by
      have : (k + 1) * sz ≤ l.length * sz := Nat.mul_le_mul_right _ hkl
      rw [Nat.succ_mul] at this
      omega
    have e1 : cur.toList[k * sz + j]? = (l.flatMap enc)[k * sz + j]? := by
      rw [← ht, List.getElem?_take, if_pos hlt]
    have e2 : ∀ (m : List α) (i : Nat), (∀ y ∈ m, (enc y).length = sz) → m[i]? = some x → (m.flatMap enc)[i * sz + j]? = some u := by
      intro m
      induction m with
      | nil => intro i _ hi; simp at hi
      | cons y m ih =>
        intro i hm hi
        have hy : (enc y).length = sz := hm y (by simp)
        rw [List.flatMap_cons]
        cases i with
        | zero =>
          obtain rfl : y = x := by simpa using hi
          rw [Nat.zero_mul, Nat.zero_add, List.getElem?_append_left (by omega)]
          exact hj
        | succ i =>
          rw [List.getElem?_append_right (by rw [hy, Nat.succ_mul]; omega), hy, show (i + 1) * sz + j - sz = i * sz + j by rw [Nat.succ_mul]; omega]
          exact ih i (fun z hz => hm z (by simp [hz])) (by simpa using hi)
    have e3 := e2 l k hl hk
    rw [Nat.zero_add, ← Array.getElem?_toList, e1, e3]
/-- a block of a list's cells reads -/
theorem SL.of_block {g : Nat} {t : TypeId} (h : w.heap[g]? = some (.cells (l.flatMap enc).toArray t (0, 0))) (hl : ∀ x ∈ l, (enc x).length = sz) (hb : l.length ≤ 140737488355328) (n : Nat) (hn : n = l.length) :
    SL enc sz w (.slice (some ⟨g, 0, none⟩) n n) l := by
  subst hn
  have hlen : ∀ (m : List α), (∀ y ∈ m, (enc y).length = sz) → (m.flatMap enc).length = m.length * sz := by
    intro m
    induction m with
    | nil => intro _; simp
    | cons y m ih =>
      intro hm
      rw [List.flatMap_cons, List.length_append, ih (fun z hz => hm z (by simp [hz])), hm y (by simp), List.length_cons, Nat.succ_mul]
      omega
  have hq := hlen l hl
  exact SL.of_owns (base := 0) (e := t) ⟨hq, .inr ⟨g, l.length, _, rfl, Nat.zero_le _, h, Nat.le_refl _, by simp only [maxLen]; omega, by rw [List.size_toArray]; exact hq, by rw [← hq]; exact List.take_length⟩⟩ hl hb
/-- the first elements -/
theorem SL.take {A : Option Addr} {n c : Nat} (h : SL enc sz w (.slice A n c) l) (i : Nat) (hi : i ≤ l.length) : SL enc sz w (.slice A i c) (l.take i) := by
  obtain ⟨h1, h2, A', c', h3, h4, h5, h6⟩ := h
  injection h3 with hA hn hc
  subst hA hn hc
  have hli : (l.take i).length = i := by rw [List.length_take]; omega
  refine ⟨fun x hx => h1 x (List.mem_of_mem_take hx), by omega, A, c, by rw [hli], by omega, h5, fun hp => ?_⟩
  obtain ⟨b, o, h7, h8⟩ := h6 (by omega)
  refine ⟨b, o, h7, fun k x hk => h8 k x ?_⟩
  rw [List.getElem?_take] at hk
  split at hk
  · exact hk
  · simp at hk
end

/-! ### a whole array stored into the block that was made last -/
section
variable {P : Program}
theorem wpList_store_last {ops : Array Oper} {rest : List Oper} {op : Oper} {a : Act} {w : World} {Q : Exit → Act → World → Prop} (hgd : op.guard = none) (ty : TypeId) (x y : Operand) (ho : op.op = .store ty x y)
    (c c' : Array Value) (hx : a.eval x = .pointer (some ⟨w.heap.size, 0, none⟩)) (hy : a.eval y = .agg c')
    (hi : (P.info? ty).map (·.size) = some c'.size) (hs : c.size = c'.size) (h1 : c'.all (·.oneCell') = true)
    (h : wpList P ops Q rest (a.put op.dst undef) (w.alloc (.cells c' ty))) : wpList P ops Q (op :: rest) a (w.alloc (.cells c ty)) :=
  wpList_plain hgd fun _ hK => by
    unfold Oper.wp execOp
    simp only [ho, hx, hy, Instr.storeAt, Instr.sureAddr, Sem.run_bind, Sem.run_pure, Result.andThen_ok, run_storeVar_new w ty c c' hi hs h1]
    exact hK _ _ h
theorem run_loadAt_row (w : World) (g : Nat) (t ty : TypeId) (cs : Array Value) (fr : Nat × Nat) (d : TypeDesc) (hg : w.heap[g]? = some (.cells cs t fr))
    (hu : P.underlying ty = some d) (hd : (match d with | .struct _ | .array _ _ => true | _ => false) = true) (hi : (P.info? ty).map (·.size) = some cs.size) :
    (Instr.loadAt ty (.pointer (some ⟨g, 0, none⟩))).run P w = .ok (.agg cs) w := by
  simp only [Instr.loadAt, Instr.sureAddr, Sem.run_bind, Sem.run_pure, Result.andThen_ok, run_loadVar_row w g t ty cs fr d hg hu hd hi]
/-- '!=' of two arrays of bytes -/
theorem run_neq_bytes (w : World) (t e : TypeId) (n : Nat) (ht : P.underlying t = some (.array n e)) (he : P.underlying e = some (.int .u8)) (hsz : ∀ w, (sizeOf e).run P w = .ok 1 w)
    (xs ys : List UInt8) (hx : xs.length = n) (hy : ys.length = n) :
    (binOp .neq t (.agg (xs.map cell).toArray) (.agg (ys.map cell).toArray)).run P w = .ok (.bool (!(xs == ys))) w := by
  rw [run_neq_struct, run_equalIn_bytes w 9998 t e n ht he hsz xs ys hx hy]
  rfl
end

/-! ### a slice literal whose parts are whole values -/
section
variable {P : Program}
theorem wpList_buildWhole {ops : Array Oper} {rest : List Oper} {o : Oper} {a : Act} {w : World} {Q : Exit → Act → World → Prop} (hg : o.guard = none) (t e : TypeId) (len s : Nat) (parts : Array (Nat × Operand)) (ho : o.op = .buildSlice t len parts)
    (vs : List Value) (z : Value) (bytes : Nat) (hp : (parts.map fun (i, x) => (i, a.eval x)).toList = (vs.zipIdx 0).map fun x => (x.2, x.1)) (hv : ∀ v ∈ vs, v.cells.size = s) (hl : vs.length = len)
    (hi : (P.info? e).map (fun i => (i.zero, i.size, i.bytes)) = some (some z, s, bytes)) (hu : P.underlying t = some (.slice e)) (hs : 0 < s) (hlen : 0 < len) (hsmall : len * s ≤ 16777216)
    (h : wpList P ops Q rest (a.put o.dst (.slice (some ⟨w.heap.size, 0, none⟩) len len)) (w.alloc (.cells (vs.flatMap fun v => v.cells.toList).toArray e))) : wpList P ops Q (o :: rest) a w := by
  cases hq : P.info? e with
  | none => rw [hq] at hi; cases hi
  | some ie =>
    rw [hq] at hi
    simp only [Option.map_some, Option.some.injEq, Prod.mk.injEq] at hi
    obtain ⟨hz, hsz, _⟩ := hi
    have hpos : 0 < len * s := Nat.mul_pos hlen hs
    refine wpList_buildSlice hg t e len parts ho _ ie z hu hq hz (by rw [hsz]; omega) (by rw [hsz]; omega) ?_ h
    rw [hp, hsz]
    exact Great.fill_whole hs vs _ hv (by simp [hl])
theorem wpList_buildOne {ops : Array Oper} {rest : List Oper} {o : Oper} {a : Act} {w : World} {Q : Exit → Act → World → Prop} (hg : o.guard = none) (t e : TypeId) (s : Nat) (x : Operand) (ho : o.op = .buildSlice t 1 #[(0, x)])
    (cs : Array Value) (z : Value) (bytes : Nat) (hx : a.eval x = .agg cs) (hv : cs.size = s)
    (hi : (P.info? e).map (fun i => (i.zero, i.size, i.bytes)) = some (some z, s, bytes)) (hu : P.underlying t = some (.slice e)) (hs : 0 < s) (hsmall : s ≤ 16777216)
    (h : wpList P ops Q rest (a.put o.dst (.slice (some ⟨w.heap.size, 0, none⟩) 1 1)) (w.alloc (.cells cs e))) : wpList P ops Q (o :: rest) a w := by
  refine wpList_buildWhole hg t e 1 s #[(0, x)] ho [.agg cs] z bytes (by simp [hx]) (by simp [Value.cells, hv]) rfl hi hu hs (by decide) (by omega) ?_
  simpa [Value.cells] using h
end

/-! ### quiet regions: an operation whose value is known in every world of the class -/
section
variable {P : Program} {ops : Array Oper} {C : World → Prop} {Q : Act → Prop} {a : Act} {o : Oper} {rest : List Oper}
theorem wpQuiet_value (hw : Region.wanted o (yielded ops a.tmps) = true) (v : Value) (hL : ∀ w, C w → (execOp a.eval o).run P w = .ok (.value v) w) (h : wpQuiet P ops C Q rest (a.put o.dst v)) : wpQuiet P ops C Q (o :: rest) a := by
  unfold wpQuiet
  rw [if_pos hw]
  refine ⟨v, fun w hC => ?_, h⟩
  unfold Oper.quietAt
  rw [hL w hC]
  exact ⟨rfl, rfl⟩
theorem wpQuiet_load (hw : Region.wanted o (yielded ops a.tmps) = true) (ty : TypeId) (x : Operand) (ho : o.op = .load ty x) (p : Addr) (hx : a.eval x = .pointer (some p)) (v : Value)
    (hL : ∀ w, C w → (Instr.loadAt ty (.pointer (some p))).run P w = .ok v w) (h : wpQuiet P ops C Q rest (a.put o.dst v)) : wpQuiet P ops C Q (o :: rest) a :=
  wpQuiet_value hw v (fun w hC => by unfold execOp; simp only [ho, hx, Sem.run_bind, hL w hC, Result.andThen_ok, Sem.run_pure]) h
theorem wpQuiet_call (hw : Region.wanted o (yielded ops a.tmps) = true) (f : FuncId) (args : Array Value) (hrun : ∀ w, (execOp a.eval o).run P w = .ok (.enter f args) w) (v : Value)
    (hc : ∀ w, C w → Calls P f args w fun e w' => e = .returned v ∧ C w') (h : wpQuiet P ops C Q rest (a.put o.dst v)) : wpQuiet P ops C Q (o :: rest) a := by
  unfold wpQuiet
  rw [if_pos hw]
  refine ⟨v, fun w hC => ?_, h⟩
  unfold Oper.quietAt
  rw [hrun w]
  exact ⟨rfl, hc w hC⟩
end
/-- Of a contract that ends in 'Below': in the class of a quiet region. -/
theorem rg_of {P : Program} {f : FuncId} {args : Array Value} {w : World} {v : Value} (h : ∀ wx, Below w.heap.size w wx → Calls P f args wx fun e w' => e = .returned v ∧ Below wx.heap.size wx w') :
    ∀ wx, (∃ p : Regrown, wx = Sort.grow (redrawn w p.d) p.os) → Calls P f args wx fun e w'' => e = .returned v ∧ ∃ p : Regrown, w'' = Sort.grow (redrawn w p.d) p.os := by
  rintro wx ⟨p, rfl⟩
  exact Calls.regrown_of (h _ (below_regrown w p.d p.os))
theorem rg_fact {w : World} {φ : World → Prop} (h : ∀ wx, Below w.heap.size w wx → φ wx) : ∀ wx, (∃ p : Regrown, wx = Sort.grow (redrawn w p.d) p.os) → φ wx := by
  rintro wx ⟨p, rfl⟩
  exact h _ (below_regrown w p.d p.os)
/-! ### bytes and strings -/
def ba (l : List UInt8) : ByteArray := ⟨l.toArray⟩
def bs (s : ByteArray) : List UInt8 := s.data.toList
theorem bs_ba (l : List UInt8) : bs (ba l) = l := rfl
theorem ba_bs (s : ByteArray) : ba (bs s) = s := rfl
theorem ba_size (l : List UInt8) : (ba l).size = l.length := rfl
theorem bs_len (s : ByteArray) : (bs s).length = s.size := Array.length_toList
theorem bs_get (s : ByteArray) (n : Nat) (h : n < s.size) (h2 : n < (bs s).length) : (bs s)[n]'h2 = s[n]'h := Array.getElem_toList h
theorem bs_append (s t : ByteArray) : bs (s ++ t) = bs s ++ bs t := by simp [bs]
theorem ba_append (l m : List UInt8) : ba l ++ ba m = ba (l ++ m) := by
  apply ByteArray.ext
  simp [ba]
theorem bs_toList (s : ByteArray) : s.toList = bs s := by rw [ByteArray.toList_eq]; rfl
/-- a slice of bytes reads as so many bytes -/
structure SB (w : World) (v : Value) (l : List UInt8) : Prop where
  bd : l.length ≤ maxLen
  ex : ∃ A c, v = .slice A l.length c ∧ l.length ≤ c ∧ c ≤ maxLen ∧ (0 < l.length → ∃ b o, A = some ⟨b, o, none⟩ ∧ w.rangeAt b o (hc l))
theorem SB.below {w w' : World} {v : Value} {l : List UInt8} (h : SB w v l) (hb : Below w.heap.size w w') : SB w' v l := by
  obtain ⟨h2, A, c, h3, h4, h5, h6⟩ := h
  refine ⟨h2, A, c, h3, h4, h5, fun hp => ?_⟩
  obtain ⟨b, o, h7, h8⟩ := h6 hp
  exact ⟨b, o, h7, range_below h8 hb⟩
theorem SB.of_owns {w : World} {base : Nat} {e : TypeId} {v : Value} {l : List UInt8} (h : w.ownsRow base e 1 v l.length (hc l)) : SB w v l := by
  obtain ⟨h1, h2⟩ := h
  rcases h2 with ⟨rfl, h0⟩ | ⟨g, cap, cur, rfl, hg, hh, hn, hm, hs, ht⟩
  · obtain rfl : l = [] := List.eq_nil_of_length_eq_zero h0
    exact ⟨by simp, none, 0, rfl, Nat.le_refl _, by simp [maxLen], fun h => by simp at h⟩
  · refine ⟨by omega, some ⟨g, 0, none⟩, cap, rfl, hn, hm, fun _ => ⟨g, 0, rfl, fun j u hj => ?_⟩⟩
    have hjl : j < l.length := by have := (List.getElem?_eq_some_iff.1 hj).1; rwa [hc_len] at this
    rw [cell_of_row w g _ cur e (0, 0) hh, ← hj, ← ht, List.getElem?_take, if_pos (by omega), Nat.zero_add, Array.getElem?_toList]
section
variable {P : Program}
theorem run_string_bytes {w : World} {src dst e : TypeId} {v : Value} {l : List UInt8} (hs : P.underlying src = some (.slice e)) (he : P.underlying e = some (.int .u8)) (hd : P.underlying dst = some .string)
    (h : SB w v l) : (convert src dst v).run P w = .ok (.string (ba l)) w := by
  obtain ⟨_, A, c, rfl, _, _, h6⟩ := h
  cases l with
  | nil =>
    cases A with
    | none => exact run_convert_bytes_nil w src e hs he _ c dst hd
    | some ad =>
      show (convert src dst (.slice (some ad) 0 c)).run P w = .ok (.string (ba [])) w
      rw [run_convert_bytes_string w src dst e _ 0 c hs he hd, run_bytesToString w ad 0 c [] (by rfl)]
      rfl
  | cons b0 l =>
    obtain ⟨b, o, rfl, h8⟩ := h6 (by simp)
    rw [run_convert_bytes_arg w src e hs he b o (b0 :: l).length c ((b0 :: l).map fun x => (x.toNat : Int)) (by simp) (fun i hi => ?_) dst hd]
    · congr 2
      apply ByteArray.ext
      have e : ∀ m : List UInt8, m.map ((fun n => UInt8.ofNat n.toNat) ∘ fun (x : UInt8) => (x.toNat : Int)) = m := by
        intro m
        induction m with
        | nil => rfl
        | cons y m ih => rw [List.map_cons, ih]; simp
      simp only [strOfNums, ba, List.map_map]
      rw [e]
    · have := h8 i (cell ((b0 :: l).getD i 0)) (by
        unfold hc
        rw [List.getElem?_map]
        simp [List.getD_eq_getElem?_getD, List.getElem?_eq_getElem hi])
      rw [this]
      simp only [cell, List.getD_eq_getElem?_getD, List.getElem?_map, List.getElem?_eq_getElem hi]
      rfl
end
end Go.Proofs.YtihdeanfcbiflaaDoor.Mk
