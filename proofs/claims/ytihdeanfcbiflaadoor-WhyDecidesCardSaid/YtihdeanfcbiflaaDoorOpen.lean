/- How the arguments of a law are opened: arrays of numbers, slices of flat elements. Over any program; no condition. -/
import Derived.Test.YtihdeanfcbiflaaDoorMk
import Derived.ProofKit
import Derived.OpenShut
import Derived.ShutString
import Derived.ChangeOld
import Derived.Below
import Derived.SizedLaws
import Derived.Deep.Slices
namespace Go.Proofs.YtihdeanfcbiflaaDoor.Mk
open Go.RowKit Go.ChangeShapes Go.WideShapes
open Extern.Stop (cell)
section
variable {H : Type} {enc : TypeId × Value → H} {P : Program} {w : World} {base : Nat} {spare : Nat → Bool} {held : Bool}
theorem open_nums {n fuel : Nat} {k : IntKind} {t e : TypeId} {cs : List Value} {x : DataW H × List MemPlace} (ht : P.underlying t = some (.array n e)) (he : P.underlying e = some (.int k)) (hc : P.cellsOf e = 1) (hct : P.cellsOf t = n)
    (h : DataW.trod enc P w base spare held fuel t cs = some x) : ∃ zs : List Int, zs.length = n ∧ cs = zs.map (Value.int k) ∧ ∀ z ∈ zs, (Lit.int k z).wf = true := by
  obtain ⟨xs, m, _, _, hl, hxl, hx⟩ := DataW.trod_array ht h
  rw [hct] at hl
  have key : ∀ i, i < n → ∃ z : Int, cs[i]? = some (.int k z) ∧ (Lit.int k z).wf = true := by
    intro i hi
    have h1 := hx i hi
    rw [hc, Nat.mul_one, List.getElem?_eq_getElem (by omega)] at h1
    obtain ⟨z, hz, _, hw⟩ := DataW.trod_int he h1
    refine ⟨z, ?_, hw⟩
    have h2 := congrArg (fun l : List Value => l[0]?) hz
    simpa [List.getElem?_take, List.getElem?_drop] using h2
  let f : Value → Int := fun v => match v with | .int _ z => z | _ => 0
  refine ⟨cs.map f, by simpa using hl, ?_, ?_⟩
  · apply List.ext_getElem?
    intro i
    rw [List.map_map]
    by_cases hi : i < n
    · obtain ⟨z, hz, _⟩ := key i hi
      rw [hz, List.getElem?_map, hz]
      rfl
    · rw [List.getElem?_eq_none (by omega), List.getElem?_eq_none (by simp; omega)]
  · intro z hz
    obtain ⟨i, hi, rfl⟩ := List.mem_iff_getElem.1 hz
    have hi' : i < n := by simpa [hl] using hi
    obtain ⟨z, hz, hw⟩ := key i hi'
    have e : (cs.map f)[i]? = some z := by rw [List.getElem?_map, hz]; rfl
    rw [List.getElem?_eq_getElem hi] at e
    rw [Option.some.inj e]
    exact hw
theorem bytes_of (zs : List Int) (h : ∀ z ∈ zs, (Lit.int .u8 z).wf = true) : zs.map (Value.int .u8) = hc (zs.map fun z => UInt8.ofNat z.toNat) := by
  unfold hc
  rw [List.map_map]
  apply List.map_congr_left
  intro z hz
  have := bounds_u8 (h z hz)
  simp only [Function.comp_apply, cell]
  congr 1
  rw [UInt8.toNat_ofNat_of_lt' (by show z.toNat < 256; omega)]
  show z = ((z.toNat : Nat) : Int)
  omega
theorem open_bytes {n fuel : Nat} {t e : TypeId} {cs : List Value} {x : DataW H × List MemPlace} (ht : P.underlying t = some (.array n e)) (he : P.underlying e = some (.int .u8)) (hce : P.cellsOf e = 1) (hct : P.cellsOf t = n)
    (h : DataW.trod enc P w base spare held fuel t cs = some x) : ∃ l : List UInt8, l.length = n ∧ cs = hc l := by
  obtain ⟨zs, hl, rfl, hw⟩ := open_nums ht he hce hct h
  exact ⟨zs.map fun z => UInt8.ofNat z.toNat, by simpa using hl, bytes_of zs hw⟩
/-- A slice of flat elements: each element as its cells tell. -/
theorem open_flat {α : Type} [Inhabited α] {encA : α → List Value} {Py : α → Prop} {sz B : Nat} {t e : TypeId} {a : Option Addr} {len cap : Nat} {d : DataW H} {ps : List MemPlace} {ts : List TypeId} {ds : List (DataW H)} {j : Nat}
    (ht : P.underlying t = some (.slice e)) (hsz : P.cellsOf e = sz) (hsz0 : 0 < sz) (hB : P.bytesOf e = B) (hB0 : 0 < B)
    (hel : ∀ (n : Nat) (cs : List Value) (x : DataW H × List MemPlace), DataW.trod enc P w base spare held n e cs = some x → ∃ y : α, Py y ∧ cs = encA y)
    (hr : (DataW.weightsEach P ts ds).all (· ≤ reachBytes) = true) (htj : ts[j]? = some t) (hdj : ds[j]? = some d)
    (h : DataW.Trod enc P w base spare held t (.slice a len cap) d ps) : ∃ l : List α, l.length = len ∧ SL encA sz w (.slice a len cap) l ∧ (∀ y ∈ l, Py y) ∧ len * B ≤ 140737488351232 := by
  obtain ⟨fuel, hf⟩ := h
  rcases Go.Deep.open_slice ht hf with ⟨hcs, hx⟩ | ⟨ad, len', cap', m, n, D, Pl, hcs, _, hlc, hcm, hm, hx, hel2⟩
  · simp [Value.cells] at hcs
    obtain ⟨rfl, rfl, rfl⟩ := hcs
    exact ⟨[], rfl, SL.nil _ _ _, fun y hy => by simp at hy, by omega⟩
  · simp [Value.cells] at hcs
    obtain ⟨rfl, rfl, rfl⟩ := hcs
    have hlm : len ≤ m := by rw [hm]; split <;> omega
    have hbd : len * B ≤ 140737488351232 := by
      obtain ⟨hx1, _⟩ := Prod.mk.inj hx
      subst hx1
      have z := sized_slice hr htj hdj ht
      rw [hB] at z
      have e1 : ((List.range len).map D).length = len := by simp
      rw [e1] at z
      exact Nat.le_trans (Nat.mul_le_mul_right _ (Nat.le_add_right _ _)) z
    have hlen47 : len ≤ 140737488355328 := by
      have : len * 1 ≤ len * B := Nat.mul_le_mul_left _ hB0
      omega
    have key : ∀ i, i < len → ∃ y : α, Py y ∧ (encA y).length = sz ∧ ∀ q u, (encA y)[q]? = some u → w.cell? ((ad.add (i * sz)).add q) = some u := by
      intro i hi
      obtain ⟨cs', h1, h2⟩ := hel2 i (by omega)
      rw [hsz] at h1
      obtain ⟨y, hy, rfl⟩ := hel n cs' _ h2
      obtain ⟨_, h3, h4⟩ := World.cells?_some h1
      refine ⟨y, hy, h3, fun q u hq => ?_⟩
      rw [h4 q (by rw [← h3]; exact (List.getElem?_eq_some_iff.1 hq).1), hq]
    obtain ⟨f, hf2⟩ := Go.Deep.choose_lt key
    have hll : ((List.range len).map f).length = len := by simp
    refine ⟨(List.range len).map f, hll, ⟨?_, by omega, some ad, cap, by rw [hll], by omega, hcm, ?_⟩, ?_, hbd⟩
    · intro x hx
      obtain ⟨i, hi, rfl⟩ := List.mem_map.1 hx
      exact (hf2 i (List.mem_range.1 hi)).2.1
    · intro hp
      have hsp : ad.spot = none := by
        obtain ⟨_, h1, h2⟩ := hf2 0 (by omega)
        cases hq : (encA (f 0))[0]? with
        | none => rw [List.getElem?_eq_none_iff] at hq; omega
        | some u =>
          have h3 := h2 0 u hq
          rw [Nat.zero_mul] at h3
          have e0 : (ad.add 0).add 0 = ad := by simp [Addr.add]
          rw [e0] at h3
          cases hs : ad.spot with
          | none => rfl
          | some s =>
            exfalso
            simp only [World.cell?, hs] at h3
            split at h3 <;> simp at h3
      refine ⟨ad.block, ad.off, by rw [show ad = ⟨ad.block, ad.off, none⟩ from by rw [← hsp]], fun k x hk => ?_⟩
      have hkl : k < len := by
        have := (List.getElem?_eq_some_iff.1 hk).1
        omega
      have e1 : x = f k := by
        rw [List.getElem?_map, List.getElem?_range hkl] at hk
        exact (Option.some.inj hk).symm
      subst e1
      intro q u hq
      have h3 := (hf2 k hkl).2.2 q u hq
      have e2 : (ad.add (k * sz)).add q = ⟨ad.block, ad.off + k * sz + q, none⟩ := by
        rw [show ad = ⟨ad.block, ad.off, none⟩ from by rw [← hsp], Addr.add_mid, Addr.add_mid]
      rwa [e2] at h3
    · intro y hy
      obtain ⟨i, hi, rfl⟩ := List.mem_map.1 hy
      exact (hf2 i (List.mem_range.1 hi)).1
end
end Go.Proofs.YtihdeanfcbiflaaDoor.Mk
