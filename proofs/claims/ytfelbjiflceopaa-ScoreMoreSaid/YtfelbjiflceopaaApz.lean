/- append of a slice of numbers, nil too, onto a row of the call's own. No condition. -/
import Derived.Maps.AppendAt
import Derived.Deep.AppendLies
import Derived.Test.YtfelbjiflceopaaRow1
import Derived.Test.YtfelbjiflceopaaSq
import Derived.Test.YtfelbjiflceopaaProg
namespace Go.Proofs.Ytfelbjiflceopaa.Mk
open Go.RowKit
section
variable {P : Program} {w : World}
theorem append_nil_run (base : Nat) (t ty e : TypeId) (i : TypeInfo) (ht : P.underlying t = some (.slice e)) (hi : P.info? e = some i) (v : Value) (n : Nat) (xs : List Value) (hown : w.ownsRow base e 1 v n xs) (c : Nat) :
    (Builtin.append_ #[t, t] ty #[v, .slice none 0 c]).run P w = .ok v w := by
  rcases hown.2 with ⟨rfl, rfl⟩ | ⟨g, cap, cur, rfl, _, _, hnc, _⟩
  · simp [Builtin.append_, run_underlying ht, sizeOf, typeInfo, hi, Builtin.lenOf, Builtin.firstCells]
  · simp [Builtin.append_, run_underlying ht, sizeOf, typeInfo, hi, Builtin.lenOf, Builtin.firstCells, hnc, storeCells]
theorem append_run {α : Type} {f : α → Value} (hf : ∀ x, (f x).oneCell' = true) (base : Nat) (t ty e : TypeId) (i : TypeInfo) (z : Value) (bytes : Nat) (ht : P.underlying t = some (.slice e)) (hi : P.info? e = some i) (hz : i.zero = some z)
    (hsize : i.size = 1) (hby : i.bytes = bytes) (hzs : z.cells.size = 1) (v : Value) (n : Nat) (xs : List Value) (hown : w.ownsRow base e 1 v n xs) (sv : Value) (l : List α) (hs : SL (E1 f) 1 w sv l)
    (h63 : n + l.length ≤ maxLen) (hbytes : (n + l.length) * bytes ≤ 140737488355328) (hbase : base ≤ w.heap.size) :
    ∃ v' w', (Builtin.append_ #[t, t] ty #[v, sv]).run P w = .ok v' w' ∧ w'.ownsRow base e 1 v' (n + l.length) (xs ++ l.map f) ∧ w.grownBy w' v.ownBlock := by
  obtain ⟨A, c, rfl, _, _, hx⟩ := hs.cell1
  cases l with
  | nil =>
    cases A with
    | none => exact ⟨v, w, append_nil_run base t ty e i ht hi v n xs hown c, by simpa using hown, World.grownBy.refl w _⟩
    | some a =>
      obtain ⟨v', w', h1, h2, h3, _⟩ := run_append_own_at (P := P) (w := w) base t ty e i z 1 bytes ht hi hz hsize hby hzs (by decide) v n xs hown a 0 c [] rfl (fun j u h => by simp at h) (fun u h => by simp at h) h63 hbytes hbase
      exact ⟨v', w', h1, by simpa using h2, h3⟩
  | cons y l =>
    obtain ⟨b, o, rfl, hc⟩ := hx (by simp)
    obtain ⟨v', w', h1, h2, h3, _⟩ := run_append_own_at (P := P) (w := w) base t ty e i z 1 bytes ht hi hz hsize hby hzs (by decide) v n xs hown ⟨b, o, none⟩ (y :: l).length c ((y :: l).map f) (by simp) (fun j u h => by
      rw [List.getElem?_map] at h
      cases hq : (y :: l)[j]? with
      | none => rw [hq] at h; cases h
      | some x =>
        rw [hq] at h
        cases h
        have := hc j x hq
        unfold Addr.add
        split
        · rename_i h0; subst h0; simpa using this
        · exact this) (fun u h => by obtain ⟨x, _, rfl⟩ := List.mem_map.1 h; exact hf x) h63 hbytes hbase
    exact ⟨v', w', h1, h2, h3⟩
theorem step_append_run {ops : Array Oper} {o : Oper} {a : Act} {K : Act → World → Prop} {Q : Exit → Act → World → Prop} {E : Prop} (hgd : o.guard = none) (s x : Operand) (t u : TypeId)
    (ho : o.op = .call { callee := .builtin .append, args := #[s, x], argTypes := #[t, u] }) (v sv v' : Value) (w' : World) (hs : a.eval s = v) (hx : a.eval x = sv) (hr : (Builtin.append_ #[t, u] o.type #[v, sv]).run P w = .ok v' w')
    (h : K (a.put o.dst v') w') : if Region.wanted o (yielded ops a.tmps) = true then Oper.wp P o a w K Q else E := by
  rw [if_pos (by simp [Region.wanted, hgd])]
  unfold Oper.wp execOp
  simp only [ho, resolve, invoke, builtin, Sem.run_bind, Sem.run_pure, Result.andThen_ok, List.map_toArray, List.map_cons, List.map_nil, hs, hx, hr]
  exact h
theorem wp_callQ {o : Oper} {a : Act} {K : Act → World → Prop} {Q : Exit → Act → World → Prop} (f : FuncId) (args : Array Value) (hrun : (execOp a.eval o).run P w = .ok (.enter f args) w) {post : Ending → World → Prop} (hc : Calls P f args w post)
    (h : ∀ e w', post e w' → ∃ v, e = .returned v ∧ K (a.put o.dst v) w') : Oper.wp P o a w K Q := by
  unfold Oper.wp
  rw [hrun, Oper.upon_enter]
  refine hc.mono fun e w' hp => ?_
  obtain ⟨v, rfl, hk⟩ := h e w' hp
  exact hk
theorem ownsRow_below {B : Nat} {e : TypeId} {sz : Nat} {v : Value} {n : Nat} {xs : List Value} {w' : World} (h : w.ownsRow B e sz v n xs) (hb : Below w.heap.size w w') : w'.ownsRow B e sz v n xs := by
  refine ⟨h.1, ?_⟩
  rcases h.2 with h2 | ⟨g, cap, cur, q1, q2, q3, q4⟩
  · exact .inl h2
  · exact .inr ⟨g, cap, cur, q1, q2, (hb.block g (Array.getElem?_eq_some_iff.1 q3).1).trans q3, q4⟩
/-- the own row's block is none of another type -/
theorem own_ne {B : Nat} {e t : TypeId} {sz : Nat} {v : Value} {n g : Nat} {xs : List Value} {cs : Array Value} {fr : Nat × Nat} (h : w.ownsRow B e sz v n xs) (hg : w.heap[g]? = some (.cells cs t fr)) (hte : t ≠ e) : some g ≠ v.ownBlock := by
  rcases h.2 with ⟨rfl, _⟩ | ⟨k, cap, cur, rfl, _, hk, _⟩
  · simp [Value.ownBlock]
  · intro e'
    obtain rfl : g = k := by simpa [Value.ownBlock] using e'
    rw [hg] at hk
    cases hk
    exact hte rfl
theorem own_lo {B : Nat} {e : TypeId} {sz : Nat} {v : Value} {n g : Nat} {xs : List Value} (h : w.ownsRow B e sz v n xs) (hg : g < B) : some g ≠ v.ownBlock := by
  rcases h.2 with ⟨rfl, _⟩ | ⟨k, cap, cur, rfl, hk, _⟩
  · simp [Value.ownBlock]
  · simp only [Value.ownBlock, ne_eq, Option.some.injEq]; omega
theorem SQ.grown {L : List (Nat × Obj)} {w0 w' : World} {B : Nat} {e : TypeId} {sz : Nat} {v : Value} {n : Nat} {xs : List Value} (h : SQ L w0 w) (ho : w.ownsRow B e sz v n xs) (hg : w.grownBy w' v.ownBlock) (hB : w0.heap.size ≤ B) (hL : ∀ p ∈ L, p.1 < B) : SQ L w0 w' :=
  ⟨fun p hp => (hg.block _ (Array.getElem?_eq_some_iff.1 (h.1 p hp)).1 (own_lo ho (hL p hp))).trans (h.1 p hp), h.2.grown hg h.2.size (fun k hk => by
    rcases ho.2 with ⟨rfl, _⟩ | ⟨g, cap, cur, rfl, hgb, _⟩
    · simp [Value.ownBlock] at hk
    · simp [Value.ownBlock] at hk; omega)⟩
end
end Go.Proofs.Ytfelbjiflceopaa.Mk
