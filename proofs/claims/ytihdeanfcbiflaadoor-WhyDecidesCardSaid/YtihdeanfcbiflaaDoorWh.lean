/- The walks of chapter 43's words, over what Itoa tells. -/
import Derived.Test.YtihdeanfcbiflaaDoorWhMath
import Derived.Test.YtihdeanfcbiflaaDoorLgT
import Derived.Test.YtihdeanfcbiflaaDoorBl
import Derived.Lib.QuietBelow
import Derived.Shelf.Abstract
import Derived.Test.YtihdeanfcbiflaaDoorCallR
namespace Go.Proofs.YtihdeanfcbiflaaDoor.Wh
open Go.RowKit Go.Proofs.YtihdeanfcbiflaaDoor.Mk Go.Proofs.YtihdeanfcbiflaaDoor.Ul Go.Proofs.YtihdeanfcbiflaaDoor.Wi Go.Proofs.YtihdeanfcbiflaaDoor.Lg
def hB (h : Hf) : Obj := .cells (hfC h).toArray 28 (0, 0)
def rB (r : Ro) : Obj := .cells (roC r).toArray 30 (0, 0)
theorem UHf : Tryd.prog.underlying 28 = some (.struct (Tryd.prog.fieldsOf 28)) := by kernel_rfl
theorem URo : Tryd.prog.underlying 30 = some (.struct (Tryd.prog.fieldsOf 30)) := by kernel_rfl
theorem IHf (h : Hf) : (Tryd.prog.info? 28).map (·.size) = some (hfC h).toArray.size := by rw [List.size_toArray, hfC_len]; kernel_rfl
theorem IRo (r : Ro) : (Tryd.prog.info? 30).map (·.size) = some (roC r).toArray.size := by rw [List.size_toArray, roC_len]; kernel_rfl
theorem one_hf (h : Hf) : (hfC h).toArray.all (·.oneCell') = true := by
  have h1 := FC_one 5 (lb h.v)
  rw [Array.all_eq_true_iff_forall_mem] at h1 ⊢
  intro x hx
  unfold hfC at hx
  rw [List.mem_toArray, List.mem_append] at hx
  rcases hx with hx | hx
  · simp at hx
    rcases hx with rfl | rfl <;> rfl
  · exact h1 x (by simpa using hx)
theorem one_ro (r : Ro) : (roC r).toArray.all (·.oneCell') = true := by
  have h1 := one_hf r.a
  have h2 := one_hf r.b
  rw [Array.all_eq_true_iff_forall_mem] at h1 h2 ⊢
  intro x hx
  unfold roC at hx
  rw [List.mem_toArray, List.mem_append, List.mem_append] at hx
  rcases hx with hx | hx | hx
  · simp at hx
    subst hx
    rfl
  · exact h1 x (by simpa using hx)
  · exact h2 x (by simpa using hx)
section
variable {w : World} {g o : Nat} {h : Hf} {r : Ro}
theorem rg_hb (hw : w.heap[g]? = some (hB h)) : w.rangeAt g 0 (hfC h) := range_row hw
theorem rg_rb (hw : w.heap[g]? = some (rB r)) : w.rangeAt g 0 (roC r) := range_row hw
theorem rg_below {w' : World} {l : List Value} (hr : w.rangeAt g o l) (hl : g < w.heap.size) (hb : Below w.heap.size w w') : w'.rangeAt g o l := fun j v hv => by
  rw [World.cell?_of_block (hb.block g hl)]
  exact hr j v hv
/-- a half that reads at g, o: its parts -/
theorem hf0 (hr : w.rangeAt g o (hfC h)) : w.cell? ⟨g, o, none⟩ = some (.int .i64 h.c) := hr 0 _ rfl
theorem hf1 (hr : w.rangeAt g o (hfC h)) : w.cell? ⟨g, o + 1, none⟩ = some (.bool h.m) := hr 1 _ rfl
theorem hf2 (hr : w.rangeAt g o (hfC h)) : w.rangeAt g (o + 2) (FC 5 (lb h.v)) := fun j v hv => by
  have := hr (2 + j) v (by unfold hfC; rw [List.getElem?_append_right (by simp)]; simpa using hv)
  rwa [show o + (2 + j) = o + 2 + j by omega] at this
theorem ro0 (hr : w.rangeAt g o (roC r)) : w.cell? ⟨g, o, none⟩ = some (.int .i64 r.l) := hr 0 _ rfl
theorem ro1 (hr : w.rangeAt g o (roC r)) : w.rangeAt g (o + 1) (hfC r.a) := fun j v hv => by
  have hj : j < (hfC r.a).length := (List.getElem?_eq_some_iff.1 hv).1
  have := hr (1 + j) v (by unfold roC; rw [List.getElem?_append_right (by simp), List.getElem?_append_left (by simpa using hj)]; simpa using hv)
  rwa [show o + (1 + j) = o + 1 + j by omega] at this
theorem ro2 (hr : w.rangeAt g o (roC r)) : w.rangeAt g (o + 8) (hfC r.b) := fun j v hv => by
  have := hr (8 + j) v (by unfold roC; rw [List.getElem?_append_right (by simp; omega), List.getElem?_append_right (by simp [hfC_len])]; simp only [List.length_singleton, hfC_len]; rw [show 8 + j - 1 - 7 = j by omega]; exact hv)
  rwa [show o + (8 + j) = o + 8 + j by omega] at this
theorem ldN (hr : w.rangeAt g o (FC 5 (lb h.v))) : (Instr.loadAt 26 (.pointer (some ⟨g, o, none⟩))).run Tryd.prog w = .ok (UV 5 h.v) w :=
  run_loadAt_mid w g o _ _ _ hr UN5 rfl (by rw [FC_len]; kernel_rfl)
theorem ldH (hr : w.rangeAt g o (hfC h)) : (Instr.loadAt 28 (.pointer (some ⟨g, o, none⟩))).run Tryd.prog w = .ok (.agg (hfC h).toArray) w :=
  run_loadAt_mid w g o _ _ _ hr UHf rfl (by rw [hfC_len]; kernel_rfl)
theorem ldR (hr : w.rangeAt g o (roC r)) : (Instr.loadAt 30 (.pointer (some ⟨g, o, none⟩))).run Tryd.prog w = .ok (.agg (roC r).toArray) w :=
  run_loadAt_mid w g o _ _ _ hr URo rfl (by rw [roC_len]; kernel_rfl)
theorem ldi {a : Addr} {n : Int} (hc : w.cell? a = some (.int .i64 n)) : (Instr.loadAt 3 (.pointer (some a))).run Tryd.prog w = .ok (.int .i64 n) w := by go_simp
end
/-- what Itoa tells, from a world on -/
def It (w : World) (n : Int) : Prop := ∀ wx, Below w.heap.size w wx → Calls Tryd.prog 24 #[.int .i64 n] wx fun e w' => e = .returned (.string (ba (itoaL n))) ∧ Below wx.heap.size wx w'
theorem It.below {w w' : World} {n : Int} (h : It w n) (hb : Below w.heap.size w w') : It w' n := fun wx hx => h wx (below_up hb hx)
theorem words_t {h : Hf} (hm : h.m = true) : ba (wordsL h) = ba (itoaL h.c) ++ ⟨#[32]⟩ ++ ba (decL h.v) := by
  unfold wordsL
  rw [hm]
  rw [show (if true = true then 32 :: decL h.v else [32, 45]) = [32] ++ decL h.v from rfl, ← List.append_assoc, ← ba_append, ← ba_append]
  rfl
theorem words_f {h : Hf} (hm : h.m = false) : ba (wordsL h) = ba (itoaL h.c) ++ ⟨#[32, 45]⟩ := by
  unfold wordsL
  rw [hm]
  rw [show (if false = true then 32 :: decL h.v else [32, 45]) = [32, 45] from rfl, ← ba_append]
  rfl
set_option maxHeartbeats 4000000 in
set_option maxRecDepth 100000 in
theorem words_calls (h : Hf) (k : h.Ok) (w : World) (hi : It w h.c) :
    Calls Tryd.prog 25 #[.agg (hfC h).toArray] w fun e w' => e = .returned (.string (ba (wordsL h))) ∧ Below w.heap.size w w' := by
  have hb0 : Below w.heap.size w (w.alloc (hB h)) := (Below.refl _ _).alloc (Nat.le_refl _) _
  have hg0 := rg_hb (heap_new w (hB h))
  have hlt : w.heap.size < (w.alloc (hB h)).heap.size := by simp
  have B0 := Lib.hid hb0
  have I0 := Lib.hid (hi.below hb0)
  have T0 := Lib.hid (fun wx => text_calls h.v wx k.1)
  have z1 : (ba (itoaL h.c)).size ≤ 20 := by rw [ba_size]; exact itoa_len k.2.1 k.2.2
  have z2 : (ba (decL h.v)).size ≤ 97 := by rw [ba_size]; exact dec5_len k.1
  have c0 := hf0 hg0
  have c1 := hf1 hg0
  have L0 := Lib.hid (fun wx (hx : Below (w.alloc (hB h)).heap.size (w.alloc (hB h)) wx) => ldi (hf0 (rg_below hg0 hlt hx)))
  have L2 := Lib.hid (fun wx (hx : Below (w.alloc (hB h)).heap.size (w.alloc (hB h)) wx) => ldN (hf2 (rg_below hg0 hlt hx)))
  have WT := Lib.hid (@words_t h)
  have WF := Lib.hid (@words_f h)
  clear hi hb0 hg0 k hlt
  unfold hB at *
  go_enter Tryd.func25, Tryd.ntmps25
  go_upto_region 1 with fail
  generalize World.alloc w _ = W0 at *
  cases hm : h.m with
  | false =>
    rw [hm] at c1
    have WF := Lib.hid (WF.out hm)
    have P1 := Lib.hid (I0.out W0 (Below.refl _ _))
    generalize ba (itoaL h.c) = s1 at *
    have hadd : ¬ 9223372036854775807 < s1.size + 2 := by omega
    clear I0 L0 L2 T0 WT
    go_wp2_with fail
    refine P1.out.mono ?_
    rintro e w1 ⟨rfl, hb1⟩
    have B1 := Lib.hid (below_up B0.out hb1)
    clear hb1
    go_wp2_with fail
    go_ret
    exact ⟨by rw [WF.out]; rfl, B1.out⟩
  | true =>
    rw [hm] at c1
    have WT := Lib.hid (WT.out hm)
    have P1 := Lib.hid (fun wx (hx : Below W0.heap.size W0 wx) => I0.out wx hx)
    have P2 := Lib.hid (fun wx (_ : Below W0.heap.size W0 wx) => T0.out wx)
    generalize ba (itoaL h.c) = s1 at *
    generalize ba (decL h.v) = s2 at *
    have hadd : ¬ 9223372036854775807 < s1.size + 1 := by omega
    have hadd2 : ¬ 9223372036854775807 < (s1 ++ ⟨#[32]⟩).size + s2.size := by rw [ByteArray.size_append, show (⟨#[32]⟩ : ByteArray).size = 1 from rfl]; omega
    clear I0 T0 WF
    go_wp2_with fail
    refine wp_region_quiet_below (by kernel_rfl) (by kernel_rfl) ?_
    repeat (first | go_big_quiet_skip | ((refine wpQuiet_load rfl 3 _ rfl _ rfl _ (rg_fact L0.out) ?_); simp only [Act.put, List.setIfInBounds_toArray, List.set_cons_zero, List.set_cons_succ]) | ((refine wpQuiet_load rfl 26 _ rfl _ rfl _ (rg_fact L2.out) ?_); simp only [Act.put, List.setIfInBounds_toArray, List.set_cons_zero, List.set_cons_succ]) | ((refine wpQuiet_call (by rfl) 24 _ (fun wx => call_run (by rfl) (by rfl) (enters_of Tryd.func24 (by kernel_rfl) rfl)) _ (rg_of P1.out) ?_); simp only [Act.put, List.setIfInBounds_toArray, List.set_cons_zero, List.set_cons_succ]) | ((refine wpQuiet_call (by rfl) 45 _ (fun wx => call_run (by rfl) (by rfl) (enters_of Tryd.func45 (by kernel_rfl) rfl)) _ (rg_of P2.out) ?_); simp only [Act.put, List.setIfInBounds_toArray, List.set_cons_zero, List.set_cons_succ]) | go_big_quiet_step (fail) | quiet_step (fail))
    refine wpQuiet_nil ?_
    rintro _ ⟨rp, rfl⟩
    have hb7 := below_regrown W0 rp.d rp.os
    generalize Sort.grow (redrawn W0 rp.d) rp.os = w7 at *
    go_wp2_with fail
    go_ret
    exact ⟨by rw [WT.out]; rfl, below_up B0.out hb7⟩
end Go.Proofs.YtihdeanfcbiflaaDoor.Wh
