/- The walks of steps: whether two are the same. -/
import Derived.Test.YtgdlhcopgfgmaaaStp
namespace Go.Proofs.Ytgdlhcopgfgmaaa.Stp
open Go.RowKit Go.Proofs.Ytgdlhcopgfgmaaa.Mk Go.Proofs.Ytgdlhcopgfgmaaa.Op Go.Proofs.Ytgdlhcopgfgmaaa.Hd Go.Proofs.Ytgdlhcopgfgmaaa.St
open Go.Proofs.Ytgdlhcopgfgmaaa.Cur (heap_new1 heap_new2 below2)
def sameS (h g : Hd) (a b : Opn) : Bool := h.eqb g && sameO a b
theorem sameS_self (h : Hd) (a : Opn) : sameS h h a a = true := by
  unfold sameS sameO
  rw [eqb_refl]
  simp
set_option maxHeartbeats 4000000 in
set_option maxRecDepth 100000 in
theorem ssame_calls (h g : Hd) (a b : Opn) (va vb : Value) (w : World) (ha : SV w va h a) (hb : SV w vb g b) (kh : h.Ok) (kg : g.Ok) :
    Calls Try.prog 37 #[va, vb] w fun e w' => e = .returned (.bool (sameS h g a b)) ∧ Below w.heap.size w w' := by
  obtain ⟨sa, rfl, hsa⟩ := ha
  obtain ⟨sb, rfl, hsb⟩ := hb
  have hB := below2 w (.cells (sc h a sa).toArray 66) (.cells (sc g b sb).toArray 66)
  have Z0 : SK w.heap.size h a sa ((w.alloc (.cells (sc h a sa).toArray 66)).alloc (.cells (sc g b sb).toArray 66)) := heap_new1 w (.cells (sc h a sa).toArray 66) (.cells (sc g b sb).toArray 66)
  have Z1 : SK (w.heap.size + 1) g b sb ((w.alloc (.cells (sc h a sa).toArray 66)).alloc (.cells (sc g b sb).toArray 66)) := heap_new2 w (.cells (sc h a sa).toArray 66) (.cells (sc g b sb).toArray 66)
  have HS := Lib.hid (same_calls a b (.agg (oc a.i a.c sa)) (.agg (oc b.i b.c sb)) _ ⟨sa, rfl, hsa.below hB⟩ ⟨sb, rfl, hsb.below hB⟩)
  have HB := Lib.hid hB
  have LO1 := Lib.hid (Z0.loadO kh)
  have LO2 := Lib.hid (Z1.loadO kg)
  have LH1 := Lib.hid (Z0.loadH kh)
  have LH2 := Lib.hid (Z1.loadH kg)
  have HQ := Lib.hid (fun w => eqHd kh kg w)
  have HR := Lib.hid (show sameS h g a b = (h.eqb g && sameO a b) from rfl)
  clear hsa hsb hB Z0 Z1 kh kg
  cases he : h.eqb g
  all_goals
    rw [he] at HQ HR
    clear he
    go_enter Try.func37, Try.ntmps37
    go_wp2_with (first | (refine wpList_loadg (by rfl) 27 (.tmp 5) (by rfl) _ (by rfl) _ LH1.out ?_) | (refine wpList_loadg (by rfl) 27 (.tmp 7) (by rfl) _ (by rfl) _ LH2.out ?_) | (refine wpList_loadg (by rfl) 64 (.tmp 11) (by rfl) _ (by rfl) _ LO1.out ?_) | (refine wpList_loadg (by rfl) 64 (.tmp 13) (by rfl) _ (by rfl) _ LO2.out ?_) | (refine wpList_value (by rfl) (.bool _) (run_bin (x := .tmp 6) (y := .tmp 8) (by rfl) (by rfl) (by rfl) (eqGuardHd (h := h) (g := g) _) (HQ.out _)) ?_))
  · go_ret
    exact ⟨ret_bool (by rw [HR.out]; rfl), HB.out⟩
  · refine HS.out.mono ?_
    rintro r w1 ⟨rfl, hb1⟩
    have hfin := Lib.hid (HB.out.trans (hb1.mono HB.out.size))
    clear hb1
    go_wp2_with fail
    go_ret
    exact ⟨ret_bool (by rw [HR.out]; rfl), hfin.out⟩
set_option maxHeartbeats 4000000 in
set_option maxRecDepth 100000 in
theorem rssame_calls (h g : Hd) (a b : Opn) (va vb : Value) (w : World) (ha : SV w va h a) (hb : SV w vb g b) (kh : h.Ok) (kg : g.Ok) :
    Calls Try.prog 38 #[va, vb] w fun e w' => e = .returned (.bool (sameS h g a b)) ∧ Below w.heap.size w w' := by
  obtain ⟨sa, rfl, hsa⟩ := ha
  obtain ⟨sb, rfl, hsb⟩ := hb
  have hB := below2 w (.cells (sc h a sa).toArray 66) (.cells (sc g b sb).toArray 66)
  have Z0 : SK w.heap.size h a sa ((w.alloc (.cells (sc h a sa).toArray 66)).alloc (.cells (sc g b sb).toArray 66)) := heap_new1 w (.cells (sc h a sa).toArray 66) (.cells (sc g b sb).toArray 66)
  have Z1 : SK (w.heap.size + 1) g b sb ((w.alloc (.cells (sc h a sa).toArray 66)).alloc (.cells (sc g b sb).toArray 66)) := heap_new2 w (.cells (sc h a sa).toArray 66) (.cells (sc g b sb).toArray 66)
  have HS := Lib.hid (rsame_calls a b (.agg (oc a.i a.c sa)) (.agg (oc b.i b.c sb)) _ ⟨sa, rfl, hsa.below hB⟩ ⟨sb, rfl, hsb.below hB⟩)
  have HB := Lib.hid hB
  have LO1 := Lib.hid (Z0.loadO kh)
  have LO2 := Lib.hid (Z1.loadO kg)
  have LH1 := Lib.hid (Z0.loadH kh)
  have LH2 := Lib.hid (Z1.loadH kg)
  have HQ := Lib.hid (fun w => eqHd kh kg w)
  have HR := Lib.hid (show sameS h g a b = (h.eqb g && sameO a b) from rfl)
  clear hsa hsb hB Z0 Z1 kh kg
  cases he : h.eqb g
  all_goals
    rw [he] at HQ HR
    clear he
    go_enter Try.func38, Try.ntmps38
    go_wp2_with (first | (refine wpList_loadg (by rfl) 27 (.tmp 5) (by rfl) _ (by rfl) _ LH1.out ?_) | (refine wpList_loadg (by rfl) 27 (.tmp 7) (by rfl) _ (by rfl) _ LH2.out ?_) | (refine wpList_loadg (by rfl) 64 (.tmp 11) (by rfl) _ (by rfl) _ LO1.out ?_) | (refine wpList_loadg (by rfl) 64 (.tmp 13) (by rfl) _ (by rfl) _ LO2.out ?_) | (refine wpList_value (by rfl) (.bool _) (run_bin (x := .tmp 6) (y := .tmp 8) (by rfl) (by rfl) (by rfl) (eqGuardHd (h := h) (g := g) _) (HQ.out _)) ?_))
  · go_ret
    exact ⟨ret_bool (by rw [HR.out]; rfl), HB.out⟩
  · refine HS.out.mono ?_
    rintro r w1 ⟨rfl, hb1⟩
    have hfin := Lib.hid (HB.out.trans (hb1.mono HB.out.size))
    clear hb1
    go_wp2_with fail
    go_ret
    exact ⟨ret_bool (by rw [HR.out]; rfl), hfin.out⟩
end Go.Proofs.Ytgdlhcopgfgmaaa.Stp
