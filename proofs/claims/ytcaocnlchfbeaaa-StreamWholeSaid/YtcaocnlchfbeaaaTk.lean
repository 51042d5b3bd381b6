/- The walk of what is taken as an opening. -/
import Derived.Test.YtcaocnlchfbeaaaBh
import Derived.Test.YtcaocnlchfbeaaaBi
import Derived.Deep.DeepCutAuto
import Derived.Test.YtcaocnlchfbeaaaBa
namespace Go.Proofs.Ytcaocnlchfbeaaa.Tk
open Go.RowKit Go.Proofs.Ytcaocnlchfbeaaa.Mk Go.Proofs.Ytcaocnlchfbeaaa.Op Go.Proofs.Ytcaocnlchfbeaaa.Hd Go.Proofs.Ytcaocnlchfbeaaa.St Go.Proofs.Ytcaocnlchfbeaaa.Cur
open Go.Proofs.Ytcaocnlchfbeaaa.Shape (depthI)
/-- the answer's block: nothing yet -/
def o0 : Array Value := #[.int .i64 0, .int .i64 0, .slice none 0 0]
def oB (i c : Int) (sv : Value) : Obj := .cells (oc i c sv) 41 (0, 0)
theorem UOpn : Try.prog.underlying 41 = some (.struct (Try.prog.fieldsOf 41)) := by kernel_rfl
theorem IOpn (i c : Int) (sv : Value) : (Try.prog.info? 41).map (·.size) = some (oc i c sv).size := by show _ = some 3; kernel_rfl
theorem one_oc (i c : Int) (A : Option Addr) (n k : Nat) : (oc i c (.slice A n k)).all (·.oneCell') = true := by simp [oc, Value.oneCell']
theorem own_slice {w : World} {base : Nat} {e : TypeId} {sz : Nat} {v : Value} {n : Nat} {xs : List Value} (h : w.ownsRow base e sz v n xs) : ∃ A c, v = .slice A n c := by
  obtain ⟨_, h2⟩ := h
  rcases h2 with ⟨rfl, rfl⟩ | ⟨g, cap, cur, e1, _⟩
  · exact ⟨_, _, rfl⟩
  · exact ⟨_, _, e1⟩
theorem ldOpn {w : World} {g : Nat} {i c : Int} {sv : Value} (h : w.heap[g]? = some (oB i c sv)) : (loadVar 41 ⟨g, 0, none⟩).run Try.prog w = .ok (.agg (oc i c sv)) w :=
  run_loadVar_row w g _ 41 _ _ _ h UOpn rfl (IOpn i c sv)
theorem own_but {w w' : World} {base : Nat} {e : TypeId} {sz : Nat} {v : Value} {n : Nat} {xs : List Value} {S : Nat → Prop} (h : w.ownsRow base e sz v n xs) (hb : But S w w') (hs : ∀ k, S k → k < base) : w'.ownsRow base e sz v n xs := by
  obtain ⟨h1, h2⟩ := h
  refine ⟨h1, ?_⟩
  rcases h2 with h2 | ⟨g, cap, cur, e1, hg, hh, hr⟩
  · exact .inl h2
  · have hlt : g < w.heap.size := (Array.getElem?_eq_some_iff.1 hh).1
    exact .inr ⟨g, cap, cur, e1, hg, (hb.block g hlt (fun hS => by have := hs g hS; omega)).trans hh, hr⟩
/-- what a round of the loop keeps: a cursor at b, an opening at g with sv as its path, a path v that is its own, the answer's block r -/
structure PI (b g r : Nat) (i n : Int) (w0 : World) (c : C) (sv v : Value) (p : HL) (w : World) : Prop where
  cu : CU b c w
  ob : w.heap[g]? = some (oB i n sv)
  own : w.ownsRow (g + 1) 35 32 v p.length (p.flatMap hc)
  but : But (fun k => k = b ∨ k = g) w0 w
  bs : g + 1 ≤ w.heap.size
  res : w.heap[r]? = some (oB 0 0 (.slice none 0 0))
section
variable {b g r : Nat} {i n : Int} {w0 w w2 : World} {c c2 : C} {sv v v2 : Value} {p : HL} {h : List UInt8}
theorem PI.keep (k : PI b g r i n w0 c sv v p w) (hb : Below w.heap.size w w2) : PI b g r i n w0 c sv v p w2 :=
  ⟨k.cu.keep hb, (hb.block g k.bs).trans k.ob, own_but k.own (But.of_below (S := fun _ => False) hb) (fun _ e => e.elim), k.but.trans (But.of_below (S := fun _ => False) hb) (fun _ _ e => e.elim), Nat.le_trans k.bs hb.size, (hb.block r (Array.getElem?_eq_some_iff.1 k.res).1).trans k.res⟩
theorem PI.called (k : PI b g r i n w0 c sv v p w) (hu : CU b c2 w2) (hw : CW b w w2) (hg : b < g) (hr : r ≠ b) : PI b g r i n w0 c2 sv v p w2 :=
  ⟨hu, (hw.block g k.bs (by omega)).trans k.ob, own_but k.own hw (fun _ e => by omega), k.but.trans hw (fun _ _ e => .inl e), Nat.le_trans k.bs hw.size, (hw.block r (Array.getElem?_eq_some_iff.1 k.res).1 hr).trans k.res⟩
theorem PI.app (k : PI b g r i n w0 c sv v p w) (ho : w2.ownsRow (g + 1) 35 32 v2 (p.length + 1) (p.flatMap hc ++ hc h)) (hg : w.grownBy w2 v.ownBlock) (hb : b < g) (hr : r < g) (h0 : w0.heap.size ≤ g) : PI b g r i n w0 c sv v2 (p ++ [h]) w2 := by
  have hrow : ∀ k', v.ownBlock = some k' → g + 1 ≤ k' := fun k' e => (k.own.lt k' e).1
  have hne : ∀ x, x < g + 1 → some x ≠ v.ownBlock := fun x hx e => by have := hrow x e.symm; omega
  refine ⟨(hg.block b k.cu.lt (hne b (by omega))).trans k.cu, (hg.block g k.bs (hne g (by omega))).trans k.ob, ?_, But.grown k.but hg (fun x hx e => by have := hrow x e; omega), Nat.le_trans k.bs hg.size, (hg.block r (Array.getElem?_eq_some_iff.1 k.res).1 (hne r (by omega))).trans k.res⟩
  have e1 : (p ++ [h]).length = p.length + 1 := by simp
  have e2 : (p ++ [h]).flatMap hc = p.flatMap hc ++ hc h := by simp
  rw [e1, e2]
  exact ho
theorem ob_set {w : World} {g : Nat} {i n : Int} {sv v : Value} (h : w.heap[g]? = some (oB i n sv)) : (w.setCell ⟨g, 2, none⟩ v).heap[g]? = some (oB i n v) := by
  unfold oB oc at h ⊢
  simp [World.setCell, Array.getElem?_modify, h]
theorem own_set {w : World} {base : Nat} {e : TypeId} {sz : Nat} {v : Value} {n : Nat} {xs : List Value} (h : w.ownsRow base e sz v n xs) {g : Nat} (hg : g < base) (j : Nat) (u : Value) : (w.setCell ⟨g, j, none⟩ u).ownsRow base e sz v n xs :=
  own_but h (But.setCell (S := fun k => k = g) (But.refl _ _) (p := ⟨g, j, none⟩) rfl u) (fun _ e => by omega)
theorem PI.put (k : PI b g r i n w0 c sv v p w) (hb : b < g) (hr : r < g) : PI b g r i n w0 c v v p (w.setCell ⟨g, 2, none⟩ v) :=
  ⟨(Below.heap_setCell _ _ _ _ (by simp; omega)).trans k.cu, ob_set k.ob, own_set k.own (by omega) _ _, But.setCell k.but (.inr rfl) _, by simpa [World.setCell] using k.bs, (Below.heap_setCell _ _ _ _ (by simp; omega)).trans k.res⟩
end
theorem UHs : Try.prog.underlying 39 = some (.slice 35) := by kernel_rfl
theorem IHi : (Try.prog.info? 35).map (fun i => (i.zero, i.size, i.bytes)) = some (some (hv (List.replicate 32 0)), 32, 32) := by kernel_rfl
theorem But.rowS {S : Nat → Prop} {a w : World} {g : Nat} (h : But S a w) (hg : S g) (cs : Array Value) : But S a (w.setRow g cs) :=
  ⟨h.os, h.tape, h.output, by simpa [World.setRow] using h.size, fun k hk hn => (setRow_other _ _ _ _ (fun e => hn (by rw [e]; exact hg))).trans (h.block k hk hn)⟩
theorem own_mono {w : World} {B B' : Nat} {e : TypeId} {sz : Nat} {v : Value} {n : Nat} {xs : List Value} (h : w.ownsRow B e sz v n xs) (hb : B' ≤ B) : w.ownsRow B' e sz v n xs := by
  obtain ⟨h1, h2⟩ := h
  refine ⟨h1, ?_⟩
  rcases h2 with h2 | ⟨g, cap, cur, e1, hg, hr⟩
  · exact .inl h2
  · exact .inr ⟨g, cap, cur, e1, Nat.le_trans hb hg, hr⟩
/-- an opening's value whose path is its own, from a block on -/
def OVn (B : Nat) (w : World) (v : Value) (o : Opn) : Prop := ∃ sv, v = .agg (oc o.i o.c sv) ∧ w.ownsRow B 35 32 sv o.p.length (o.p.flatMap hc) ∧ (∀ x ∈ o.p, x.length = 32) ∧ o.p.length ≤ 63
theorem OVn.ov {B : Nat} {w : World} {v : Value} {o : Opn} (h : OVn B w v o) : OV w v o := by
  obtain ⟨sv, e, ho, h32, hl⟩ := h
  exact ⟨sv, e, SL.of_owns ho (fun x hx => by rw [hc_len]; exact h32 x hx) (by omega)⟩
theorem ovn0 (B : Nat) (w : World) : OVn B w (.agg #[.int .i64 0, .int .i64 0, .slice none 0 0]) op0 := ⟨_, rfl, World.ownsRow_nil _ _ _ _, (fun x hx => by cases hx), by decide⟩
theorem zcells : (hv (List.replicate 32 0)).cells.size = 32 := by simp [hv, hc, Value.cells]
theorem store_hs {w : World} {a : Addr} {A : Option Addr} {n k : Nat} {old : Value} (h : w.cell? a = some old) (hf : w.frozen? a = false) : (Instr.storeAt 39 (.pointer (some a)) (.slice A n k)).run Try.prog w = .ok () (w.setCell a (.slice A n k)) := by go_simp
theorem ob_free {w : World} {g : Nat} {i n : Int} {sv : Value} (h : w.heap[g]? = some (oB i n sv)) (j : Nat) : w.frozen? ⟨g, j, none⟩ = false := by
  unfold oB at h
  simp [World.frozen?, h]
set_option maxHeartbeats 8000000 in
set_option maxRecDepth 100000 in
theorem takeOpening_calls (b : Nat) (c : C) (w : World) (h : CU b c w) (hl : c.b.length ≤ 9223372036854775807) :
    Calls Try.prog 26 #[.pointer (some ⟨b, 0, none⟩)] w fun r w' => ∃ v, r = .returned v ∧ OVn w.heap.size w' v (openC c).1 ∧ CU b (openC c).2 w' ∧ CW b w w' := by
  have hb := h.lt
  have hne : w.heap.size ≠ b := by omega
  have HN := Lib.hid (fun W (hW : CU b c W) => num_calls b c 1048576 W hW hl)
  have hoc := openC_eq c
  have hnl := num_len c 1048576
  have hnm := num_le c 1048576
  generalize numC c 1048576 = x at *
  obtain ⟨n, d⟩ := x
  simp only at hoc hnl hnm HN
  have H := Lib.hid h
  clear h
  go_enter Try.func26, Try.ntmps26
  go_wp2_with fail
  generalize hW : World.alloc w _ = W0
  have z0 : W0.heap[w.heap.size]? = some (oB 0 0 (.slice none 0 0)) := by
    rw [← hW]
    exact heap_new w _
  have hB0 : Below w.heap.size w W0 := by
    rw [← hW]
    exact (Below.refl _ _).alloc (Nat.le_refl _) _
  have hsz : W0.heap.size = w.heap.size + 1 := by rw [← hW]; simp
  clear hW
  refine (HN.out W0 (H.out.keep hB0)).mono ?_
  rintro r w1 ⟨rfl, hu1, hw1⟩
  have y0 : w1.heap[w.heap.size]? = some (oB 0 0 (.slice none 0 0)) := (hw1.block _ (by omega) hne).trans z0
  have Hu1 := Lib.hid hu1
  have HW1 := Lib.hid hw1
  have Y0 := Lib.hid y0
  have HB0 := Lib.hid (And.intro hB0 hsz)
  have hs1 := hw1.size
  clear z0 y0 hu1 hw1 hB0
  by_cases hn : n = 0
  · subst hn
    have Hoc := Lib.hid (hoc.trans (if_pos rfl))
    clear hoc hnm
    go_wp2_with (first | (refine wpList_store_row (by rfl) 41 _ _ rfl w.heap.size (oc 0 0 (.slice none 0 0)) rfl rfl _ _ Y0.out (IOpn _ _ _) rfl (one_oc _ _ _ _ _) ?_))
    exact bodyPost_ret (results_cell 2 41 ⟨w.heap.size, 0, none⟩ _ rfl rfl (ldOpn (setRow_heap _ _ _ _ _ _ Y0.out))) rfl ⟨_, rfl, by rw [Hoc.out]; exact ovn0 _ _, by rw [Hoc.out]; exact CU.row Hu1.out (by omega) _, But.row ((But.of_below HB0.out.1).trans HW1.out (fun _ _ e => e)) (Nat.le_refl _) _⟩
  · obtain ⟨m, rfl⟩ : ∃ m, n = m + 1 := ⟨n - 1, by omega⟩
    have t0 : (((m + 1 : Nat) : Int) == 0) = false := by simp; omega
    rw [if_neg hn, Nat.add_sub_cancel] at hoc
    have HN2 := Lib.hid (fun W (hW : CU b d W) => num_calls b d m W hW (Nat.le_trans hnl hl))
    have hml := num_len d m
    have hmm := num_le d m
    generalize numC d m = x at *
    obtain ⟨i, d2⟩ := x
    simp only at hoc hml hmm HN2
    clear hn
    go_wp2_with fail
    refine (HN2.out _ Hu1.out).mono ?_
    rintro r w2 ⟨rfl, hu2, hw2⟩
    have hs2 := hw2.size
    have hd0 := depth_nn (n := m + 1) (i := i) (by omega)
    have hd1 := depth_le ((m + 1 : Nat) : Int) i (by omega)
    have HD := Lib.hid (fun w => Shape.depth_calls ((m + 1 : Nat) : Int) (i : Int) w (by omega) (by omega) (by omega) (by omega))
    have Y2 := Lib.hid (show w2.heap[w.heap.size]? = some (oB 0 0 (.slice none 0 0)) from (hw2.block _ (by omega) hne).trans Y0.out)
    have HW2 := Lib.hid (hw2.trans (S' := fun k => k = b) (But.refl _ _) (fun _ _ e => e))
    have Hu2 := Lib.hid hu2
    clear hw2 hu2 Y0 Hu1 HN HN2
    obtain ⟨D, hD⟩ := Int.eq_ofNat_of_zero_le hd0
    rw [hD] at hoc HD hd1
    rw [Int.toNat_natCast] at hoc
    have Hoc := Lib.hid hoc
    clear hd0 hD hoc
    have hcast : ((m + 1 : Nat) : Int) = (m : Int) + 1 := by omega
    rw [hcast] at HD
    go_upto_region 5 with (first | (refine wpList_store_last rfl 41 _ _ rfl _ (oc i (m + 1) (.slice none 0 0)) rfl rfl (IOpn _ _ _) (by rfl) (one_oc _ _ _ _ _) ?_))
    generalize hW3 : World.alloc w2 _ = W3
    obtain ⟨g, hg⟩ : ∃ g, g = w2.heap.size := ⟨_, rfl⟩
    have I3 : PI b g w.heap.size i (m + 1) w1 d2 (.slice none 0 0) (.slice none 0 0) [] W3 := by
      rw [← hW3, hg]
      refine ⟨Hu2.out.keep ((Below.refl _ _).alloc (Nat.le_refl _) _), heap_new _ _, World.ownsRow_nil _ _ _ _, (But.alloc HW2.out _).mono (fun _ _ e => .inl e), by simp, (Below.heap_alloc _ _ _ (by omega)).trans Y2.out⟩
    rw [← hg]
    have hbg : b < g ∧ w.heap.size < g ∧ b < w.heap.size ∧ w1.heap.size ≤ g := by omega
    clear hW3 Hu2 Y2 HW2 hg hs2
    obtain ⟨c0, c1, c2⟩ := three (i := i) (c := m + 1) (sv := .slice none 0 0) I3.ob
    have I3 := Lib.hid I3
    go_wp2_with fail
    refine (HD.out _).mono ?_
    rintro r w4 ⟨rfl, hb4⟩
    have I4 := Lib.hid (I3.out.keep hb4)
    have hl2 : d2.b.length ≤ 9223372036854775807 := by omega
    clear hb4 I3 c0 c1 c2 HD
    go_wp2_with fail
    go_loopw [5] (fun s5 wr => ∃ (k : Nat) (cc : C) (p : HL) (A : Option Addr) (cap : Nat), k ≤ 63 ∧ s5 = .int .i64 k ∧ cc.b.length ≤ 9223372036854775807 ∧ p.length + k ≤ 63 ∧ Hid (loopC k cc p = loopC D d2 []) ∧ Hid (∀ x ∈ p, x.length = 32) ∧ Hid (PI b g w.heap.size i (m + 1) w1 cc (.slice A p.length cap) (.slice A p.length cap) p wr)) (fun s5 _ => (intOf s5).toNat)
    case atStart => exact ⟨D, d2, [], none, 0, by omega, rfl, hl2, by simp; omega, Lib.hid rfl, Lib.hid (by simp), I4⟩
    case round =>
      clear I4
      obtain ⟨k, cc, p, A, cap, hk, rfl, hcl, hpk, HL, H32, I⟩ := hrel
      have HE := Lib.hid (fun w h => err_calls b cc w h)
      by_cases hgo : 0 < k ∧ cc.e = 0
      · obtain ⟨hk0, he0⟩ := hgo
        obtain ⟨k', rfl⟩ : ∃ k', k = k' + 1 := ⟨k - 1, by omega⟩
        have HL2 := Lib.hid (HL.out.symm.trans (loop_go he0))
        rw [he0] at HE
        clear HL
        have e0 : (0 : Int) < ((k' + 1 : Nat) : Int) := by omega
        go_wp2_with fail
        refine (HE.out _ I.out.cu).mono ?_
        rintro r w5 ⟨rfl, rfl⟩
        go_wp2_with fail
        have P_X0 : PI b g w.heap.size i (m + 1) w1 cc (.slice A p.length cap) (.slice A p.length cap) p w5.drew := I.out.keep (Below.refl _ _).drew
        obtain ⟨h, hh⟩ : ∃ h, h = (hashC cc).1 := ⟨_, rfl⟩
        have h32 : h.length = 32 := by rw [hh]; exact hash_32 cc
        have hcl2 := hash_len cc
        have HC := Lib.hid (fun w hu => hash_calls b cc w hu hcl)
        rw [← hh] at HC
        rw [← hh] at HL2
        have HP : Hid (p.length + 1 ≤ 63) := Lib.hid (by omega)
        clear hh I HE
        generalize (hashC cc).2 = cc2 at *
        have H32h := Lib.hid h32
        obtain ⟨i0, hi, hz0, hz1, hz2⟩ := info_parts IHi
        have hrr : w.heap.size ≠ b := hne
        refine wp_region_any (by kernel_rfl) ?_
        change wpAny _ _ _ _ _ _ _ (World.drew _)
        generalize World.drew w5 = X0 at *
        refine wpAny_take (i := 0) (oi := ⟨some 33, _, _, _, _, _⟩) (v := .pointer (some ⟨g, 2, none⟩)) rfl (by kernel_rfl) (by kernel_rfl) (by kernel_rfl) (fun _ _ _ h => h) (Or.inl ⟨by rfl, by intro wx; go_simp⟩) ?_
        try simp only [Act.put, List.setIfInBounds_toArray, List.set_cons_zero, List.set_cons_succ]
        refine wpAny_take (i := 2) (oi := ⟨some 35, _, _, _, _, _⟩) (v := .pointer (some ⟨b, 0, none⟩)) rfl (by kernel_rfl) (by kernel_rfl) (by kernel_rfl) (fun _ _ _ h => h) (Or.inl ⟨by rfl, by intro wx; go_simp⟩) ?_
        try simp only [Act.put, List.setIfInBounds_toArray, List.set_cons_zero, List.set_cons_succ]
        refine wpAny_ready (rs := [1, 3]) (by kernel_rfl) (by simp) ?_
        refine AllReady.cons rfl (fun K hK => ?_) (AllReady.cons rfl (fun K hK => ?_) AllReady.nil)
        · refine step_load rfl 39 _ rfl _ rfl (.slice A p.length cap) (run_load_hs (three P_X0.ob).2.2) ?_
          refine hK _ _ ?_
          clear hK K
          refine wpAny_ready (rs := [3]) (by kernel_rfl) (by simp) ?_
          refine AllReady.cons rfl (fun K hK => ?_) AllReady.nil
          · go_simp
            go_at_call 68
            refine (HC.out _ P_X0.cu).mono ?_
            rintro r V2 ⟨rfl, hu2, hw2⟩
            have P_V2 := P_X0.called hu2 hw2 hbg.1 hrr
            try dsimp only
            refine hK _ _ ?_
            clear hK K
            refine wpAny_ready (rs := [4]) (by kernel_rfl) (by simp) ?_
            refine AllReady.cons rfl (fun K hK => ?_) AllReady.nil
            · refine step_buildOne rfl 39 35 32 (.tmp 36) rfl (hc h).toArray _ _ rfl (by rw [List.size_toArray, hc_len, H32h.out]) IHi UHs (by decide) (by decide) ?_
              generalize hW3 : World.alloc V2 _ = V3
              have hb3 : Below V2.heap.size V2 V3 := by rw [← hW3]; exact (Below.refl _ _).alloc (Nat.le_refl _) _
              have N_V3 : V3.heap[V2.heap.size]? = some (.cells (hc h).toArray 35 (0, 0)) := by rw [← hW3]; exact heap_new _ _
              clear hW3
              have P_V3 := P_V2.keep hb3
              try dsimp only
              refine hK _ _ ?_
              clear hK K
              refine wpAny_ready (rs := [5]) (by kernel_rfl) (by simp) ?_
              refine AllReady.cons rfl (fun K hK => ?_) AllReady.nil
              · refine step_append_lies _ (by rfl) (.tmp 34) (.tmp 37) 39 (by rfl) (g + 1) 35 i0 _ 32 32 UHs hi hz0 hz1 hz2 zcells (by decide) _ _ _ (by rfl) P_V3.own _ 1 1 (hc h) (by rfl) (by rw [hc_len, H32h.out]) (World.news_of_block N_V3) (hc_one' h) (by decide) (by have := HP.out; simp only [maxLen]; omega) (by have := HP.out; omega) P_V3.bs _ rfl ?_
                intro gx4 cap4 V4 own4 gro4 _ _
                have P_V4 := P_V3.app own4 gro4 hbg.1 hbg.2.1 hbg.2.2.2
                have N_V4 := True.intro
                try dsimp only
                refine hK _ _ ?_
                clear hK K
                refine wpAny_take (i := 6) (oi := ⟨some 39, _, _, _, _, _⟩) (v := .pointer (some ⟨g, 2, none⟩)) rfl (by kernel_rfl) (by kernel_rfl) (by kernel_rfl) (fun _ _ _ h => h) (Or.inl ⟨by rfl, by intro wx; go_simp⟩) ?_
                refine wpAny_ready (rs := [7]) (by kernel_rfl) (by simp) ?_
                refine AllReady.cons rfl (fun K hK => ?_) AllReady.nil
                · refine step_store rfl 39 _ _ rfl _ rfl _ rfl _ (store_hs (three P_V4.ob).2.2 (ob_free P_V4.ob 2)) ?_
                  generalize hW5 : World.setCell V4 _ _ = V5
                  have P_V5 := hW5 ▸ P_V4.put hbg.1 hbg.2.1
                  have N_V5 := True.intro
                  try dsimp only
                  refine hK _ _ ?_
                  clear hK K
                  refine wpAny_done (by kernel_rfl) ?_ _
                  go_wp2_with fail
                  have P_F := P_V5
                  go_roundw
                  case rel => exact ⟨k', cc2, p ++ [h], _, _, by omega, by go_num, by omega, by simp; omega, Lib.hid HL2.out.symm, Lib.hid (by intro x hx; rcases List.mem_append.1 hx with hx | hx; exact H32.out x hx; rw [List.mem_singleton.1 hx]; exact H32h.out), Lib.hid (by simpa using P_F)⟩
                  case measure => simp [intOf] <;> omega
        · go_simp
          go_at_call 68
          refine (HC.out _ P_X0.cu).mono ?_
          rintro r V6 ⟨rfl, hu6, hw6⟩
          have P_V6 := P_X0.called hu6 hw6 hbg.1 hrr
          try dsimp only
          refine hK _ _ ?_
          clear hK K
          refine wpAny_ready (rs := [1, 4]) (by kernel_rfl) (by simp) ?_
          refine AllReady.cons rfl (fun K hK => ?_) (AllReady.cons rfl (fun K hK => ?_) AllReady.nil)
          · refine step_load rfl 39 _ rfl _ rfl (.slice A p.length cap) (run_load_hs (three P_V6.ob).2.2) ?_
            refine hK _ _ ?_
            clear hK K
            refine wpAny_ready (rs := [4]) (by kernel_rfl) (by simp) ?_
            refine AllReady.cons rfl (fun K hK => ?_) AllReady.nil
            · refine step_buildOne rfl 39 35 32 (.tmp 36) rfl (hc h).toArray _ _ rfl (by rw [List.size_toArray, hc_len, H32h.out]) IHi UHs (by decide) (by decide) ?_
              generalize hW8 : World.alloc V6 _ = V8
              have hb8 : Below V6.heap.size V6 V8 := by rw [← hW8]; exact (Below.refl _ _).alloc (Nat.le_refl _) _
              have N_V8 : V8.heap[V6.heap.size]? = some (.cells (hc h).toArray 35 (0, 0)) := by rw [← hW8]; exact heap_new _ _
              clear hW8
              have P_V8 := P_V6.keep hb8
              try dsimp only
              refine hK _ _ ?_
              clear hK K
              refine wpAny_ready (rs := [5]) (by kernel_rfl) (by simp) ?_
              refine AllReady.cons rfl (fun K hK => ?_) AllReady.nil
              · refine step_append_lies _ (by rfl) (.tmp 34) (.tmp 37) 39 (by rfl) (g + 1) 35 i0 _ 32 32 UHs hi hz0 hz1 hz2 zcells (by decide) _ _ _ (by rfl) P_V8.own _ 1 1 (hc h) (by rfl) (by rw [hc_len, H32h.out]) (World.news_of_block N_V8) (hc_one' h) (by decide) (by have := HP.out; simp only [maxLen]; omega) (by have := HP.out; omega) P_V8.bs _ rfl ?_
                intro gx9 cap9 V9 own9 gro9 _ _
                have P_V9 := P_V8.app own9 gro9 hbg.1 hbg.2.1 hbg.2.2.2
                have N_V9 := True.intro
                try dsimp only
                refine hK _ _ ?_
                clear hK K
                refine wpAny_take (i := 6) (oi := ⟨some 39, _, _, _, _, _⟩) (v := .pointer (some ⟨g, 2, none⟩)) rfl (by kernel_rfl) (by kernel_rfl) (by kernel_rfl) (fun _ _ _ h => h) (Or.inl ⟨by rfl, by intro wx; go_simp⟩) ?_
                refine wpAny_ready (rs := [7]) (by kernel_rfl) (by simp) ?_
                refine AllReady.cons rfl (fun K hK => ?_) AllReady.nil
                · refine step_store rfl 39 _ _ rfl _ rfl _ rfl _ (store_hs (three P_V9.ob).2.2 (ob_free P_V9.ob 2)) ?_
                  generalize hW10 : World.setCell V9 _ _ = V10
                  have P_V10 := hW10 ▸ P_V9.put hbg.1 hbg.2.1
                  have N_V10 := True.intro
                  try dsimp only
                  refine hK _ _ ?_
                  clear hK K
                  refine wpAny_done (by kernel_rfl) ?_ _
                  go_wp2_with fail
                  have P_F := P_V10
                  go_roundw
                  case rel => exact ⟨k', cc2, p ++ [h], _, _, by omega, by go_num, by omega, by simp; omega, Lib.hid HL2.out.symm, Lib.hid (by intro x hx; rcases List.mem_append.1 hx with hx | hx; exact H32.out x hx; rw [List.mem_singleton.1 hx]; exact H32h.out), Lib.hid (by simpa using P_F)⟩
                  case measure => simp [intOf] <;> omega
          · refine step_buildOne rfl 39 35 32 (.tmp 36) rfl (hc h).toArray _ _ rfl (by rw [List.size_toArray, hc_len, H32h.out]) IHi UHs (by decide) (by decide) ?_
            generalize hW11 : World.alloc V6 _ = V11
            have hb11 : Below V6.heap.size V6 V11 := by rw [← hW11]; exact (Below.refl _ _).alloc (Nat.le_refl _) _
            have N_V11 : V11.heap[V6.heap.size]? = some (.cells (hc h).toArray 35 (0, 0)) := by rw [← hW11]; exact heap_new _ _
            clear hW11
            have P_V11 := P_V6.keep hb11
            try dsimp only
            refine hK _ _ ?_
            clear hK K
            refine wpAny_ready (rs := [1]) (by kernel_rfl) (by simp) ?_
            refine AllReady.cons rfl (fun K hK => ?_) AllReady.nil
            · refine step_load rfl 39 _ rfl _ rfl (.slice A p.length cap) (run_load_hs (three P_V11.ob).2.2) ?_
              refine hK _ _ ?_
              clear hK K
              refine wpAny_ready (rs := [5]) (by kernel_rfl) (by simp) ?_
              refine AllReady.cons rfl (fun K hK => ?_) AllReady.nil
              · refine step_append_lies _ (by rfl) (.tmp 34) (.tmp 37) 39 (by rfl) (g + 1) 35 i0 _ 32 32 UHs hi hz0 hz1 hz2 zcells (by decide) _ _ _ (by rfl) P_V11.own _ 1 1 (hc h) (by rfl) (by rw [hc_len, H32h.out]) (World.news_of_block N_V11) (hc_one' h) (by decide) (by have := HP.out; simp only [maxLen]; omega) (by have := HP.out; omega) P_V11.bs _ rfl ?_
                intro gx13 cap13 V13 own13 gro13 _ _
                have P_V13 := P_V11.app own13 gro13 hbg.1 hbg.2.1 hbg.2.2.2
                have N_V13 := True.intro
                try dsimp only
                refine hK _ _ ?_
                clear hK K
                refine wpAny_take (i := 6) (oi := ⟨some 39, _, _, _, _, _⟩) (v := .pointer (some ⟨g, 2, none⟩)) rfl (by kernel_rfl) (by kernel_rfl) (by kernel_rfl) (fun _ _ _ h => h) (Or.inl ⟨by rfl, by intro wx; go_simp⟩) ?_
                refine wpAny_ready (rs := [7]) (by kernel_rfl) (by simp) ?_
                refine AllReady.cons rfl (fun K hK => ?_) AllReady.nil
                · refine step_store rfl 39 _ _ rfl _ rfl _ rfl _ (store_hs (three P_V13.ob).2.2 (ob_free P_V13.ob 2)) ?_
                  generalize hW14 : World.setCell V13 _ _ = V14
                  have P_V14 := hW14 ▸ P_V13.put hbg.1 hbg.2.1
                  have N_V14 := True.intro
                  try dsimp only
                  refine hK _ _ ?_
                  clear hK K
                  refine wpAny_done (by kernel_rfl) ?_ _
                  go_wp2_with fail
                  have P_F := P_V14
                  go_roundw
                  case rel => exact ⟨k', cc2, p ++ [h], _, _, by omega, by go_num, by omega, by simp; omega, Lib.hid HL2.out.symm, Lib.hid (by intro x hx; rcases List.mem_append.1 hx with hx | hx; exact H32.out x hx; rw [List.mem_singleton.1 hx]; exact H32h.out), Lib.hid (by simpa using P_F)⟩
                  case measure => simp [intOf] <;> omega
      · have HL2 := Lib.hid ((loop_stop (p := p) (show k = 0 ∨ cc.e ≠ 0 by omega)).symm.trans HL.out)
        clear HL
        by_cases hk0 : k = 0
        · subst hk0
          have HL3 := Lib.hid (show openC c = if cc.e ≠ 0 then (op0, cc) else (⟨(i : Int), ((m + 1 : Nat) : Int), p⟩, cc) by rw [Hoc.out, ← HL2.out])
          go_wp2_with fail
          refine (HE.out _ I.out.cu).mono ?_
          rintro r w6 ⟨rfl, rfl⟩
          have hfin := Lib.hid (show CW b w w6 from ((But.of_below HB0.out.1).trans (S' := fun k => k = b) HW1.out (fun _ _ e => e)).trans (S' := fun k => k = b) (I.out.but.mono (fun x hx e => e.elim id (fun e => by omega))) (fun _ _ e => e))
          by_cases he : cc.e = 0
          · have Hr := Lib.hid (HL3.out.trans (if_neg (by simpa using he)))
            rw [hcast] at Hr
            have t1 : (cc.e != 0) = false := by rw [he]; rfl
            clear he
            go_wp2_with (first | (refine wpList_load_row (by rfl) 41 (.tmp 4) (by rfl) _ (by rfl) _ _ _ _ I.out.ob UOpn rfl (IOpn _ _ _) ?_) | (refine wpList_store_row (by rfl) 41 _ _ rfl w.heap.size (oc i (m + 1) (.slice A p.length cap)) rfl rfl _ _ I.out.res (IOpn _ _ _) rfl (one_oc _ _ _ _ _) ?_))
            exact bodyPost_ret (results_cell 2 41 ⟨w.heap.size, 0, none⟩ _ rfl rfl (ldOpn (setRow_heap _ _ _ _ _ _ I.out.res))) rfl ⟨_, rfl, by rw [Hr.out]; exact ⟨_, rfl, own_mono (own_but I.out.own (But.rowS (S := fun k => k = w.heap.size) (But.refl _ _) rfl _) (fun _ e => by omega)) (by omega), H32.out, by show p.length ≤ _; omega⟩, by rw [Hr.out]; exact CU.row I.out.cu (by omega) _, But.row hfin.out (Nat.le_refl _) _⟩
          · have Hr := Lib.hid (HL3.out.trans (if_pos he))
            have t1 : (cc.e != 0) = true := by simpa using he
            clear he
            go_wp2_with (first | (refine wpList_store_row (by rfl) 41 _ _ rfl w.heap.size (oc 0 0 (.slice none 0 0)) rfl rfl _ _ I.out.res (IOpn _ _ _) rfl (one_oc _ _ _ _ _) ?_))
            exact bodyPost_ret (results_cell 2 41 ⟨w.heap.size, 0, none⟩ _ rfl rfl (ldOpn (setRow_heap _ _ _ _ _ _ I.out.res))) rfl ⟨_, rfl, by rw [Hr.out]; exact ovn0 _ _, by rw [Hr.out]; exact CU.row I.out.cu (by omega) _, But.row hfin.out (Nat.le_refl _) _⟩
        · have e0 : (0 : Int) < (k : Int) := by omega
          have t2 : (cc.e == 0) = false := by
            rw [beq_eq_false_iff_ne]
            intro e
            exact hgo ⟨by omega, e⟩
          clear hk0
          go_wp2_with fail
          refine (HE.out _ I.out.cu).mono ?_
          rintro r w5 ⟨rfl, rfl⟩
          clear e0
          have HL3 := Lib.hid (show openC c = if cc.e ≠ 0 then (op0, cc) else (⟨(i : Int), ((m + 1 : Nat) : Int), p⟩, cc) by rw [Hoc.out, ← HL2.out])
          go_wp2_with fail
          refine (HE.out _ I.out.cu).mono ?_
          rintro r w6 ⟨rfl, rfl⟩
          have hfin := Lib.hid (show CW b w w6 from ((But.of_below HB0.out.1).trans (S' := fun k => k = b) HW1.out (fun _ _ e => e)).trans (S' := fun k => k = b) (I.out.but.mono (fun x hx e => e.elim id (fun e => by omega))) (fun _ _ e => e))
          by_cases he : cc.e = 0
          · have Hr := Lib.hid (HL3.out.trans (if_neg (by simpa using he)))
            rw [hcast] at Hr
            have t1 : (cc.e != 0) = false := by rw [he]; rfl
            clear he
            go_wp2_with (first | (refine wpList_load_row (by rfl) 41 (.tmp 4) (by rfl) _ (by rfl) _ _ _ _ I.out.ob UOpn rfl (IOpn _ _ _) ?_) | (refine wpList_store_row (by rfl) 41 _ _ rfl w.heap.size (oc i (m + 1) (.slice A p.length cap)) rfl rfl _ _ I.out.res (IOpn _ _ _) rfl (one_oc _ _ _ _ _) ?_))
            exact bodyPost_ret (results_cell 2 41 ⟨w.heap.size, 0, none⟩ _ rfl rfl (ldOpn (setRow_heap _ _ _ _ _ _ I.out.res))) rfl ⟨_, rfl, by rw [Hr.out]; exact ⟨_, rfl, own_mono (own_but I.out.own (But.rowS (S := fun k => k = w.heap.size) (But.refl _ _) rfl _) (fun _ e => by omega)) (by omega), H32.out, by show p.length ≤ _; omega⟩, by rw [Hr.out]; exact CU.row I.out.cu (by omega) _, But.row hfin.out (Nat.le_refl _) _⟩
          · have Hr := Lib.hid (HL3.out.trans (if_pos he))
            have t1 : (cc.e != 0) = true := by simpa using he
            clear he
            go_wp2_with (first | (refine wpList_store_row (by rfl) 41 _ _ rfl w.heap.size (oc 0 0 (.slice none 0 0)) rfl rfl _ _ I.out.res (IOpn _ _ _) rfl (one_oc _ _ _ _ _) ?_))
            exact bodyPost_ret (results_cell 2 41 ⟨w.heap.size, 0, none⟩ _ rfl rfl (ldOpn (setRow_heap _ _ _ _ _ _ I.out.res))) rfl ⟨_, rfl, by rw [Hr.out]; exact ovn0 _ _, by rw [Hr.out]; exact CU.row I.out.cu (by omega) _, But.row hfin.out (Nat.le_refl _) _⟩
end Go.Proofs.Ytcaocnlchfbeaaa.Tk
