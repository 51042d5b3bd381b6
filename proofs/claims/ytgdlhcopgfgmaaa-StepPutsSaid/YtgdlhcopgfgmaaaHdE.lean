/- Whether two headers are the same. -/
import Derived.ChangeKeysEq
import Derived.Test.YtgdlhcopgfgmaaaHdG
namespace Go.Proofs.Ytgdlhcopgfgmaaa.Hd
open Go.RowKit Go.Proofs.Ytgdlhcopgfgmaaa.Mk Go.Proofs.Ytgdlhcopgfgmaaa.Wd Go.Proofs.Ytgdlhcopgfgmaaa.Cur
open Extern.Stop (cell)
theorem eqf_cons {P : Program} {d : Nat} {xs ys : Array Value} {f : Field} {fs : List Field} {a b : Value} {r s : Bool} {w : World} (hn : f.name ≠ "_") (ha : (part f.type xs f.offset).run P w = .ok a w) (hb : (part f.type ys f.offset).run P w = .ok b w)
    (he : (Op.equalIn d f.type a b).run P w = .ok r w) (hr : (Op.eqFields d xs ys fs).run P w = .ok s w) : (Op.eqFields d xs ys (f :: fs)).run P w = .ok (r && s) w := by
  simp only [Op.eqFields, Sem.run_bind, Sem.run_ite]
  rw [if_pos hn]
  simp only [ha, hb, he, Result.andThen_ok]
  cases r
  · simp
  · simp [hr]
theorem eqf_nil {P : Program} {d : Nat} {xs ys : Array Value} {w : World} : (Op.eqFields d xs ys []).run P w = .ok true w := by simp [Op.eqFields]
theorem run_part_row {P : Program} {t e : TypeId} {n sz off : Nat} {xs : Array Value} {cs : List Value} {w : World} (hu : P.underlying t = some (.array n e)) (hs : ∀ w, (sizeOf t).run P w = .ok sz w) (hx : (xs.extract off (off + sz)) = cs.toArray) (hl : off + sz ≤ xs.size) :
    (part t xs off).run P w = .ok (.agg cs.toArray) w := by
  simp [part, isAgg, run_underlying hu, hs, hx, Result.andThen]
theorem pl32 : Try.prog.plainKey 22 = true := by kernel_rfl
theorem pl64 : Try.prog.plainKey 25 = true := by kernel_rfl
theorem U32 : Try.prog.underlying 22 = some (.int .u32) := by kernel_rfl
theorem U64 : Try.prog.underlying 25 = some (.int .u64) := by kernel_rfl
theorem stoodHd : Try.prog.stoodInHeld 27 = false := by kernel_rfl
theorem fieldsHd : Try.prog.underlying 27 = some (.struct (Try.prog.fieldsOf 27)) := by
  unfold Program.fieldsOf
  rw [Try.underlying27]
theorem ext_ln (h : Hd) (k : h.Ok) : h.c.toArray.extract 1 (1 + 32) = (hc h.ln).toArray := by
  apply Array.ext'
  rw [Array.toList_extract]
  simp only [List.extract]
  rw [show 1 + 32 - 1 = 32 from rfl]
  unfold Hd.c
  rw [List.drop_succ_cons, List.drop_zero, List.take_left' (by rw [hc_len, k.2.1])]
theorem ext_tx (h : Hd) (k : h.Ok) : h.c.toArray.extract 33 (33 + 32) = (hc h.tx).toArray := by
  apply Array.ext'
  rw [Array.toList_extract]
  simp only [List.extract]
  rw [show 33 + 32 - 33 = 32 from rfl]
  unfold Hd.c
  rw [show 33 = 32 + 1 from rfl, List.drop_succ_cons, List.drop_left' (by rw [hc_len, k.2.1]), List.take_left' (by rw [hc_len, k.2.2.1])]
theorem get_ht (h : Hd) : h.c.toArray[0]? = some (.int .u32 h.ht) := rfl
theorem get_no (h : Hd) (o : h.Ok) : h.c.toArray[65]? = some (.int .u64 h.no) := by
  rw [List.getElem?_toArray]
  unfold Hd.c
  rw [List.getElem?_cons_succ, List.getElem?_append_right (by rw [hc_len, o.2.1]; decide), hc_len, o.2.1, List.getElem?_append_right (by rw [hc_len, o.2.2.1]; decide), hc_len, o.2.2.1]
  rfl
def Hd.eqb (h g : Hd) : Bool := ((h.ht : Int) == (g.ht : Int)) && ((h.ln == g.ln) && ((h.tx == g.tx) && (((h.no : Int) == (g.no : Int)) && true)))
theorem sizeH (w : World) : (sizeOf 24).run Try.prog w = .ok 32 w := Try.sizeOf24 w
theorem run_eq_Hd (h g : Hd) (kh : h.Ok) (kg : g.Ok) (w : World) : (Op.equalIn 10000 27 h.v g.v).run Try.prog w = .ok (h.eqb g) w := by
  unfold Hd.v
  rw [run_equalIn_struct w 9999 27 _ _ fieldsHd stoodHd]
  unfold Program.fieldsOf
  rw [Try.underlying27]
  have zh : h.c.toArray.size = 66 := by rw [List.size_toArray, Hd.c_len h kh]
  have zg : g.c.toArray.size = 66 := by rw [List.size_toArray, Hd.c_len g kg]
  refine eqf_cons (by decide) (run_part_plain w pl32 (get_ht h)) (run_part_plain w pl32 (get_ht g)) (run_equalIn_int w 9998 _ _ _ _ _ U32) ?_
  refine eqf_cons (by decide) (run_part_row UH sizeH (ext_ln h kh) (by rw [zh]; decide)) (run_part_row UH sizeH (ext_ln g kg) (by rw [zg]; decide)) (run_equalIn_bytes w 9997 _ _ 32 UH UB Try.sizeOf5 h.ln g.ln kh.2.1 kg.2.1) ?_
  refine eqf_cons (by decide) (run_part_row UH sizeH (ext_tx h kh) (by rw [zh]; decide)) (run_part_row UH sizeH (ext_tx g kg) (by rw [zg]; decide)) (run_equalIn_bytes w 9997 _ _ 32 UH UB Try.sizeOf5 h.tx g.tx kh.2.2.1 kg.2.2.1) ?_
  exact eqf_cons (by decide) (run_part_plain w pl64 (get_no h kh)) (run_part_plain w pl64 (get_no g kg)) (run_equalIn_int w 9998 _ _ _ _ _ U64) eqf_nil
theorem eqb_refl (h : Hd) : h.eqb h = true := by simp [Hd.eqb]
theorem eqb_eq {h g : Hd} (e : h.eqb g = true) : h = g := by
  obtain ⟨a, l, t, n⟩ := h
  obtain ⟨a', l', t', n'⟩ := g
  simp only [Hd.eqb, Bool.and_eq_true, beq_iff_eq, Bool.and_true] at e
  obtain ⟨e1, e2, e3, e4⟩ := e
  congr 1
  · omega
  · omega
theorem eqGuardHd {x y : Operand} {h g : Hd} (w : World) : (eqGuard .eql 27 x y h.v g.v).run Try.prog w = .ok () w := run_eqGuard_agg _ _ _ _ _ _ _ (by kernel_rfl)
theorem eqHd {h g : Hd} (kh : h.Ok) (kg : g.Ok) (w : World) : (binOp .eql 27 h.v g.v).run Try.prog w = .ok (.bool (h.eqb g)) w := by
  have := run_eq_Hd h g kh kg w
  unfold Hd.v at *
  rw [run_eql_struct, this]
  rfl
end Go.Proofs.Ytgdlhcopgfgmaaa.Hd
