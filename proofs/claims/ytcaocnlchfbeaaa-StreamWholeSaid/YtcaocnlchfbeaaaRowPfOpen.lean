/- How a list of steps is opened. -/
import Derived.Test.YtcaocnlchfbeaaaRows
import Derived.Test.YtcaocnlchfbeaaaOpen
import Derived.WalkKit
import Derived.ProofKit
import Derived.OpenShut
import Derived.ShutString
import Derived.ChangeOld
import Derived.Below
import Derived.SizedLaws
import Derived.Test.YtcaocnlchfbeaaaRowStOpen
import Derived.Test.YtcaocnlchfbeaaaSs
namespace Go.Proofs.Ytcaocnlchfbeaaa.Pf
open Go.ChangeShapes Go.WideShapes Go.ChangeAt Go.RowKit Go.Proofs.Ytcaocnlchfbeaaa.Mk Go.Proofs.Ytcaocnlchfbeaaa.Op Go.Proofs.Ytcaocnlchfbeaaa.Hd Go.Proofs.Ytcaocnlchfbeaaa.St Go.Proofs.Ytcaocnlchfbeaaa.Stp Go.Proofs.Ytcaocnlchfbeaaa.Tk
theorem weights_mem_all {H : Type} {P : Program} {e : TypeId} : ∀ {l : List (DataW H)} {d : DataW H}, d ∈ l → ∀ n ∈ d.weights P e, n ∈ DataW.weightsAll P e l
  | [], _, h, _, _ => by cases h
  | d0 :: r, d, h, n, hn => by
    simp only [DataW.weightsAll, List.mem_append]
    rcases List.mem_cons.1 h with rfl | h
    · exact .inl hn
    · exact .inr (weights_mem_all h n hn)
section
variable {H : Type} {enc : TypeId × Value → H} {P : Program} {w : World} {base : Nat} {spare : Nat → Bool} {held : Bool}
/-- A slice of elements that hold slices: each element as its cells and its weights tell. -/
theorem open_deep {α : Type} [Inhabited α] {encA : α → List Value} {Py : α → Prop} {sz B : Nat} {t e : TypeId} {a : Option Addr} {len cap : Nat} {d : DataW H} {ps : List MemPlace} {ts : List TypeId} {ds : List (DataW H)} {j : Nat}
    (ht : P.underlying t = some (.slice e)) (hsz : P.cellsOf e = sz) (hsz0 : 0 < sz) (hB : P.bytesOf e = B) (hB0 : 0 < B)
    (hel : ∀ (n : Nat) (cs : List Value) (x : DataW H × List MemPlace), DataW.trod enc P w base spare held n e cs = some x → (DataW.weightsEach P [e] [x.1]).all (· ≤ reachBytes) = true → ∃ y : α, Py y ∧ cs = encA y)
    (hr : (DataW.weightsEach P ts ds).all (· ≤ reachBytes) = true) (htj : ts[j]? = some t) (hdj : ds[j]? = some d)
    (h : DataW.Trod enc P w base spare held t (.slice a len cap) d ps) : ∃ l : List α, l.length = len ∧ SL encA sz w (.slice a len cap) l ∧ (∀ y ∈ l, Py y) ∧ len * B ≤ 140737488351232 := by
  obtain ⟨fuel, hf⟩ := h
  rcases Go.Deep.open_slice ht hf with ⟨hcs, hx⟩ | ⟨ad, len', cap', m, n, D, Pl, hcs, _, hlc, hcm, hm, hx, hel2⟩
  · simp [Value.cells] at hcs
    obtain ⟨rfl, rfl, rfl⟩ := hcs
    exact ⟨[], rfl, SL.nil _ _ _, fun y hy => by simp at hy, by omega⟩
  · simp [Value.cells] at hcs
    obtain ⟨rfl, rfl, rfl⟩ := hcs
    have hlm : len ≤ m := by rw [hm]; split <;> omega
    have hbd : len * B ≤ 140737488351232 := by
      obtain ⟨hx1, _⟩ := Prod.mk.inj hx
      subst hx1
      have z := sized_slice hr htj hdj ht
      rw [hB] at z
      have e1 : ((List.range len).map D).length = len := by simp
      rw [e1] at z
      exact Nat.le_trans (Nat.mul_le_mul_right _ (Nat.le_add_right _ _)) z
    have hlen47 : len ≤ 140737488355328 := by
      have : len * 1 ≤ len * B := Nat.mul_le_mul_left _ hB0
      omega
    have hel3 : ∀ i, i < len → (DataW.weightsEach P [e] [D i]).all (· ≤ reachBytes) = true := by
      intro i hi
      obtain ⟨hx1, _⟩ := Prod.mk.inj hx
      apply List.all_eq_true.2
      intro n hn
      refine List.all_eq_true.1 hr n (DataW.weights_mem_each htj hdj n ?_)
      have hn1 : n ∈ (D i).weights P e := by simpa [DataW.weightsEach] using hn
      rw [hx1]
      simp only [DataW.weights, ht, List.mem_cons, List.mem_append]
      exact .inr (.inl (weights_mem_all (List.mem_map.2 ⟨i, List.mem_range.2 hi, rfl⟩) n hn1))
    have key : ∀ i, i < len → ∃ y : α, Py y ∧ (encA y).length = sz ∧ ∀ q u, (encA y)[q]? = some u → w.cell? ((ad.add (i * sz)).add q) = some u := by
      intro i hi
      obtain ⟨cs', h1, h2⟩ := hel2 i (by omega)
      rw [hsz] at h1
      obtain ⟨y, hy, rfl⟩ := hel n cs' _ h2 (hel3 i hi)
      obtain ⟨_, h3, h4⟩ := World.cells?_some h1
      refine ⟨y, hy, h3, fun q u hq => ?_⟩
      rw [h4 q (by rw [← h3]; exact (List.getElem?_eq_some_iff.1 hq).1), hq]
    obtain ⟨f, hf2⟩ := Go.Deep.choose_lt key
    have hll : ((List.range len).map f).length = len := by simp
    refine ⟨(List.range len).map f, hll, ⟨?_, by omega, some ad, cap, by rw [hll], by omega, hcm, ?_⟩, ?_, hbd⟩
    · intro x hx
      obtain ⟨i, hi, rfl⟩ := List.mem_map.1 hx
      exact (hf2 i (List.mem_range.1 hi)).2.1
    · intro hp
      have hsp : ad.spot = none := by
        obtain ⟨_, h1, h2⟩ := hf2 0 (by omega)
        cases hq : (encA (f 0))[0]? with
        | none => rw [List.getElem?_eq_none_iff] at hq; omega
        | some u =>
          have h3 := h2 0 u hq
          rw [Nat.zero_mul] at h3
          have e0 : (ad.add 0).add 0 = ad := by simp [Addr.add]
          rw [e0] at h3
          cases hs : ad.spot with
          | none => rfl
          | some s =>
            exfalso
            simp only [World.cell?, hs] at h3
            split at h3 <;> simp at h3
      refine ⟨ad.block, ad.off, by rw [show ad = ⟨ad.block, ad.off, none⟩ from by rw [← hsp]], fun k x hk => ?_⟩
      have hkl : k < len := by
        have := (List.getElem?_eq_some_iff.1 hk).1
        omega
      have e1 : x = f k := by
        rw [List.getElem?_map, List.getElem?_range hkl] at hk
        exact (Option.some.inj hk).symm
      subst e1
      intro q u hq
      have h3 := (hf2 k hkl).2.2 q u hq
      have e2 : (ad.add (k * sz)).add q = ⟨ad.block, ad.off + k * sz + q, none⟩ := by
        rw [show ad = ⟨ad.block, ad.off, none⟩ from by rw [← hsp], Addr.add_mid, Addr.add_mid]
      rwa [e2] at h3
    · intro y hy
      obtain ⟨i, hi, rfl⟩ := List.mem_map.1 hy
      exact (hf2 i (List.mem_range.1 hi)).1
end
theorem USs2 : Try.prog.underlying 23 = some (.slice 43) := by kernel_rfl
instance : Inhabited Tr := ⟨⟨hd0, op0, .slice none 0 0⟩⟩
theorem bSt : Try.prog.bytesOf 43 = 120 := by kernel_rfl
theorem open_steps {H : Type} {enc : TypeId × Value → H} {w : World} {base : Nat} {spare : Nat → Bool} {held : Bool} {a : Option Addr} {len cap : Nat} {d : DataW H} {ps : List MemPlace} {ts : List TypeId} {ds : List (DataW H)} {j : Nat}
    (hr : (DataW.weightsEach Try.prog ts ds).all (· ≤ reachBytes) = true) (htj : ts[j]? = some 23) (hdj : ds[j]? = some d)
    (h : DataW.Trod enc Try.prog w base spare held 23 (.slice a len cap) d ps) : ∃ l : List HO, SS w (.slice a len cap) l ∧ ∀ x ∈ l, x.1.Ok ∧ OOk x.2 := by
  obtain ⟨us, hl, hs, hp, _⟩ := open_deep (encA := encS) (Py := fun t => t.h.Ok ∧ OOk t.o ∧ SL hc 32 w t.v t.o.p) USs2 cSt (by decide) bSt (by decide) (fun n cs x hx hw => by
    obtain ⟨y, o, sv, q1, q2, q3, q4⟩ := open_stp (j := 0) (ts := [43]) (ds := [x.1]) hw rfl rfl hx
    exact ⟨⟨y, o, sv⟩, ⟨q1, q2, q4⟩, q3⟩) hr htj hdj h
  exact ⟨us.map Tr.ho, ⟨us, rfl, hs, fun t ht => ⟨(hp t ht).1, (hp t ht).2.2⟩⟩, fun x hx => by
    obtain ⟨t, ht, rfl⟩ := List.mem_map.1 hx
    exact ⟨(hp t ht).1, (hp t ht).2.1⟩⟩
end Go.Proofs.Ytcaocnlchfbeaaa.Pf
