/- The walk of chapter 8's law CurSteps. -/
import Derived.Deep.DeepCutAuto
import Derived.Test.YtgdlhcopgfgmaaaCurY
namespace Go.Proofs.Ytgdlhcopgfgmaaa.Cur
open Go.RowKit Go.Proofs.Ytgdlhcopgfgmaaa.Mk
theorem run_load_string {w : World} {a : Addr} {s : ByteArray} (h : w.cell? a = some (.string s)) : (Instr.loadAt 9 (.pointer (some a))).run Try.prog w = .ok (.string s) w := by go_simp
theorem run_load_errno {w : World} {a : Addr} {e : Int} (h : w.cell? a = some (.int .i64 e)) : (Instr.loadAt 31 (.pointer (some a))).run Try.prog w = .ok (.int .i64 e) w := by go_simp
theorem size_go (x : St) (c : C) : (x.go c).b.length ≤ c.b.length := (good_go x c).len
theorem keep_six {w : World} {g p q o : Nat} {x y a b c d : Option Value} {u v : Value} (hp : p ≠ g) (hq : q ≠ g) (h : (w.cell? ⟨p, 0, none⟩ = x ∧ w.cell? ⟨p, 1, none⟩ = y) ∧ w.cell? ⟨q, o, none⟩ = a ∧ w.cell? ⟨q, o + 1, none⟩ = b ∧ w.cell? ⟨q, o + 2, none⟩ = c ∧ w.cell? ⟨q, o + 3, none⟩ = d) :
    (((w.setCell ⟨g, 0, none⟩ u).setCell ⟨g, 1, none⟩ v).cell? ⟨p, 0, none⟩ = x ∧ ((w.setCell ⟨g, 0, none⟩ u).setCell ⟨g, 1, none⟩ v).cell? ⟨p, 1, none⟩ = y) ∧ ((w.setCell ⟨g, 0, none⟩ u).setCell ⟨g, 1, none⟩ v).cell? ⟨q, o, none⟩ = a ∧ ((w.setCell ⟨g, 0, none⟩ u).setCell ⟨g, 1, none⟩ v).cell? ⟨q, o + 1, none⟩ = b ∧
      ((w.setCell ⟨g, 0, none⟩ u).setCell ⟨g, 1, none⟩ v).cell? ⟨q, o + 2, none⟩ = c ∧ ((w.setCell ⟨g, 0, none⟩ u).setCell ⟨g, 1, none⟩ v).cell? ⟨q, o + 3, none⟩ = d := by
  simp only [cell_other (p := ⟨g, 1, none⟩) (b := p) hp, cell_other (p := ⟨g, 0, none⟩) (b := p) hp, cell_other (p := ⟨g, 1, none⟩) (b := q) hq, cell_other (p := ⟨g, 0, none⟩) (b := q) hq]
  exact h
theorem cell_alloc {w : World} {a : Addr} {v : Value} (h : w.cell? a = some v) (o : Obj) : (w.alloc o).cell? a = some v := by
  have h1 := block_lt_of_cell h
  obtain ⟨b, f, s⟩ := a
  have h2 : (w.alloc o).heap[b]? = w.heap[b]? := Below.heap_alloc _ _ _ h1
  cases s <;> simp_all [World.cell?]
theorem keep_sixa {w : World} {p q o : Nat} {x y a b c d : Value} (h : (w.cell? ⟨p, 0, none⟩ = some x ∧ w.cell? ⟨p, 1, none⟩ = some y) ∧ w.cell? ⟨q, o, none⟩ = some a ∧ w.cell? ⟨q, o + 1, none⟩ = some b ∧ w.cell? ⟨q, o + 2, none⟩ = some c ∧ w.cell? ⟨q, o + 3, none⟩ = some d) (O : Obj) :
    ((w.alloc O).cell? ⟨p, 0, none⟩ = some x ∧ (w.alloc O).cell? ⟨p, 1, none⟩ = some y) ∧ (w.alloc O).cell? ⟨q, o, none⟩ = some a ∧ (w.alloc O).cell? ⟨q, o + 1, none⟩ = some b ∧ (w.alloc O).cell? ⟨q, o + 2, none⟩ = some c ∧ (w.alloc O).cell? ⟨q, o + 3, none⟩ = some d :=
  ⟨⟨cell_alloc h.1.1 O, cell_alloc h.1.2 O⟩, cell_alloc h.2.1 O, cell_alloc h.2.2.1 O, cell_alloc h.2.2.2.1 O, cell_alloc h.2.2.2.2 O⟩
set_option maxHeartbeats 8000000 in
set_option maxRecDepth 100000 in
theorem lawSteps_calls (s : ByteArray) (v : Value) (l : List St) (w : World) (hs : s.size ≤ 140737488351232) (hv : SL St.c 4 w v l) (hok : ∀ x ∈ l, x.Ok) :
    Calls Try.prog 7 #[.string s, v] w fun e w' => e = .returned (.bool true) ∧ Below w.heap.size w w' := by
  have hbd := hv.bd
  obtain ⟨A, cc, rfl, hlc, hcm, _⟩ := hv.ex
  have HV := Lib.hid hv
  have Hok := Lib.hid hok
  clear hv hok
  go_enter Try.func7, Try.ntmps7
  go_wp2_with fail
  refine (read_calls _ _).mono ?_
  rintro r w1 ⟨rfl, hu1, hb1⟩
  have hlt1 := hu1.lt
  have hw1 : w1.heap.size ≠ w.heap.size := by omega
  have S1 := Lib.hid (show CU w.heap.size ⟨bs s, 0⟩ (w1.alloc (.cells #[.string s, .int .i64 0] 35)) ∧ (w1.alloc (.cells #[.string s, .int .i64 0] 35)).heap[w1.heap.size]? = some (.cells (cC ⟨bs s, 0⟩) 35 (0, 0)) ∧ Below w.heap.size w (w1.alloc (.cells #[.string s, .int .i64 0] 35)) ∧ w.heap.size < w1.heap.size from
    ⟨hu1.keep ((Below.refl _ _).alloc (Nat.le_refl _) _), heap_new _ _, hb1.alloc hb1.size _, hlt1⟩)
  clear hu1 hb1 hlt1 hw1
  go_wp2_with fail
  generalize hW : w1.alloc (.cells #[.string s, .int .i64 0] 35) = W1 at *
  clear hW
  generalize hbb : w.heap.size = bb at *
  have Hbb := Lib.hid hbb
  clear hbb
  generalize w1.heap.size = tb at *
  go_loopw [7] (fun s7 wr => ∃ (k : Nat) (c : C), k ≤ l.length ∧ c.b.length ≤ 140737488351232 ∧ s7 = .int .i64 k ∧ Hid (CU bb c wr ∧ wr.heap[tb]? = some (.cells (cC c) 35 (0, 0)) ∧ Below bb w wr ∧ bb < tb)) (fun s7 _ => l.length - (intOf s7).toNat)
  case atStart => exact ⟨0, ⟨bs s, 0⟩, by omega, by rw [bs_len]; exact hs, rfl, S1⟩
  case round =>
    obtain ⟨k, c, hk, hcl, rfl, hq⟩ := hrel
    obtain ⟨hu, ht, hbw, htb⟩ := hq.out
    by_cases hgo : k < l.length ∧ k < 100
    · obtain ⟨hkl, hk1⟩ := hgo
      have hxo : l[k].Ok := Hok.out _ (List.getElem_mem hkl)
      obtain ⟨_, _, A', c', he, _, _, hex⟩ := HV.out
      cases he
      obtain ⟨b0, o0, rfl, hx⟩ := hex (by omega)
      have hrw : w.rangeAt b0 (o0 + k * 4) l[k].c := hx k l[k] (List.getElem?_eq_getElem hkl)
      have hr0 : wr.rangeAt b0 (o0 + k * 4) l[k].c := range_below hrw (by rw [Hbb.out]; exact hbw)
      have hb0 : b0 < bb := by rw [← Hbb.out]; exact block_lt_of_cell (hrw 0 (.int .i64 l[k].k) rfl)
      clear hrw
      generalize l[k] = x at *
      clear hx hex
      have i1 : (0 : Int) ≤ (k : Int) := by omega
      have i2 : (k : Int) < (l.length : Int) := by omega
      have i3 : ¬ (k : Int) < 0 := by omega
      go_upto_region 6 with fail
      go_cut [8, 9] (fun s8 s9 wx => ∃ g, s8 = .pointer (some ⟨g, 0, none⟩) ∧ s9 = .bool true ∧ Hid (CU bb (x.go c) wx ∧ wx.heap[tb]? = some (.cells (cC c) 35 (0, 0)) ∧ wx.heap[g]? = some (.cells (cC (x.go c)) 35 (0, 0)) ∧ Below bb w wx ∧ g ≠ bb ∧ g ≠ tb ∧ bb ≤ g))
      case first =>
        have e9 := two_of ht
        have a0 := e9.c0
        have a1 := e9.c1
        have hcx : x.c = [.int .i64 x.k, .int .i64 x.n, .int .u64 x.m, .int .i64 x.e] := rfl
        have r0 : wr.cell? ⟨b0, o0 + k * 4, none⟩ = some (.int .i64 x.k) := hr0 0 _ rfl
        have r1 : wr.cell? ⟨b0, o0 + k * 4 + 1, none⟩ = some (.int .i64 x.n) := hr0 1 _ rfl
        have r2 : wr.cell? ⟨b0, o0 + k * 4 + 2, none⟩ = some (.int .u64 x.m) := hr0 2 _ rfl
        have r3 : wr.cell? ⟨b0, o0 + k * 4 + 3, none⟩ = some (.int .i64 x.e) := hr0 3 _ rfl
        have hgz : bb ≤ wr.heap.size := by have := hbw.size; rw [Hbb.out] at this; exact this
        have hgt : tb < wr.heap.size := (Array.getElem?_eq_some_iff.1 ht).1
        have hg3 : b0 < wr.heap.size := block_lt_of_cell r0
        have HK := Lib.hid (show ∀ w3, CW bb (wr.alloc (.cells zC 35)).drew w3 → ((w3.cell? ⟨tb, 0, none⟩ = some (.string (ba c.b)) ∧ w3.cell? ⟨tb, 1, none⟩ = some (.int .i64 c.e)) ∧ w3.cell? ⟨b0, o0 + k * 4, none⟩ = some (.int .i64 x.k) ∧ w3.cell? ⟨b0, o0 + k * 4 + 1, none⟩ = some (.int .i64 x.n) ∧ w3.cell? ⟨b0, o0 + k * 4 + 2, none⟩ = some (.int .u64 x.m) ∧ w3.cell? ⟨b0, o0 + k * 4 + 3, none⟩ = some (.int .i64 x.e)) ∧ w3.heap[tb]? = some (.cells (cC c) 35 (0, 0)) ∧ w3.heap[wr.heap.size]? = some (.cells zC 35 (0, 0)) from fun w3 hw => by
          have y := (hw.block tb (by simp; omega) (by omega)).trans ((Below.heap_alloc _ _ _ hgt).trans ht)
          have z : w3.heap[b0]? = wr.heap[b0]? := (hw.block b0 (by simp; omega) (by omega)).trans (Below.heap_alloc _ _ _ hg3)
          have zz : ∀ o, w3.cell? ⟨b0, o, none⟩ = wr.cell? ⟨b0, o, none⟩ := fun o => by simp [World.cell?, z]
          have e := two_of y
          exact ⟨⟨⟨e.c0, e.c1⟩, (zz _).trans r0, (zz _).trans r1, (zz _).trans r2, (zz _).trans r3⟩, y, (hw.block _ (by simp) (by have := hu.lt; omega)).trans (heap_new _ _)⟩)
        have HD := Lib.hid (do_calls bb x c c (wr.alloc (.cells zC 35)).drew (hu.keep ((Below.refl _ _).alloc (Nat.le_refl _) _).drew) (by omega) (by omega) hxo.1 hxo.2)
        unfold DoPost cV cC at HD
        have HBW := Lib.hid (show Below bb w (wr.alloc (.cells zC 35)) from hbw.alloc hgz _)
        have HK1 := Lib.hid (show ∀ w3, CW bb wr.drew w3 → ((w3.cell? ⟨tb, 0, none⟩ = some (.string (ba c.b)) ∧ w3.cell? ⟨tb, 1, none⟩ = some (.int .i64 c.e)) ∧ w3.cell? ⟨b0, o0 + k * 4, none⟩ = some (.int .i64 x.k) ∧ w3.cell? ⟨b0, o0 + k * 4 + 1, none⟩ = some (.int .i64 x.n) ∧ w3.cell? ⟨b0, o0 + k * 4 + 2, none⟩ = some (.int .u64 x.m) ∧ w3.cell? ⟨b0, o0 + k * 4 + 3, none⟩ = some (.int .i64 x.e)) ∧ w3.heap[tb]? = some (.cells (cC c) 35 (0, 0)) from fun w3 hw => by
          have y := (hw.block tb hgt (by omega)).trans ht
          have z : w3.heap[b0]? = wr.heap[b0]? := hw.block b0 hg3 (by omega)
          have zz : ∀ o, w3.cell? ⟨b0, o, none⟩ = wr.cell? ⟨b0, o, none⟩ := fun o => by simp [World.cell?, z]
          have e := two_of y
          exact ⟨⟨⟨e.c0, e.c1⟩, (zz _).trans r0, (zz _).trans r1, (zz _).trans r2, (zz _).trans r3⟩, y⟩)
        have HD1 := Lib.hid (do_calls bb x c c wr.drew (hu.keep (Below.refl _ _).drew) (by omega) (by omega) hxo.1 hxo.2)
        unfold DoPost cV cC at HD1
        have HBW1 := Lib.hid hbw
        have hne := Lib.hid (show wr.heap.size ≠ bb from by have := hu.lt; omega)
        clear hr0 e9 hcx ht hu hbw hq hxo
        go_region_held3 (fun w' => (w'.cell? ⟨tb, 0, none⟩ = some (.string (ba c.b)) ∧ w'.cell? ⟨tb, 1, none⟩ = some (.int .i64 c.e)) ∧ w'.cell? ⟨b0, o0 + k * 4, none⟩ = some (.int .i64 x.k) ∧ w'.cell? ⟨b0, o0 + k * 4 + 1, none⟩ = some (.int .i64 x.n) ∧ w'.cell? ⟨b0, o0 + k * 4 + 2, none⟩ = some (.int .u64 x.m) ∧ w'.cell? ⟨b0, o0 + k * 4 + 3, none⟩ = some (.int .i64 x.e))
          (first | exact HS3 | exact keep_six (by omega) (by omega) HS3 | exact keep_sixa ⟨⟨by assumption, by assumption⟩, by assumption, by assumption, by assumption, by assumption⟩ _ | go_keep)
          ((first
            | (go_at_call 23; refine HD.out.mono ?_; rintro r w3 ⟨⟨q, rfl, hqq⟩, hu3, hw3⟩; obtain rfl := hqq rfl; obtain ⟨HS3, hy3, hz3⟩ := HK.out w3 hw3; have g0 := (two_of hz3).c0; have g1 := (two_of hz3).c1; have g2 := (two_of hz3).f0; have g3 := (two_of hz3).f1)
            | (go_at_call 23; refine HD1.out.mono ?_; rintro r w3 ⟨⟨q, rfl, hqq⟩, hu3, hw3⟩; obtain rfl := hqq rfl; obtain ⟨HS3, hy3⟩ := HK1.out w3 hw3)))
        all_goals go_wp2_with fail
        all_goals go_meet
        · have h3 : wr.heap.size ≤ w3.heap.size := hw3.size
          have h4 : bb < wr.heap.size := by have := hne.out; omega
          exact ⟨w3.heap.size, rfl, rfl, Lib.hid ⟨hu3.keep ((Below.refl _ _).alloc (Nat.le_refl _) _), (Below.heap_alloc _ _ _ (Array.getElem?_eq_some_iff.1 hy3).1).trans hy3, heap_new _ _, (HBW1.out.drew.trans (hw3.below hgz (Nat.le_refl _))).alloc (by omega) _, by omega, by omega, by omega⟩⟩
        · have hk3 : ∀ j, j ≠ wr.heap.size → ∀ u v, ((w3.setCell ⟨wr.heap.size, 0, none⟩ u).setCell ⟨wr.heap.size, 1, none⟩ v).heap[j]? = w3.heap[j]? := fun j hj u v => (Below.heap_setCell _ _ _ _ hj).trans (Below.heap_setCell _ _ _ _ hj)
          have hz1 : bb ≤ (wr.alloc (.cells zC 35)).drew.heap.size := by simp; omega
          exact ⟨wr.heap.size, rfl, rfl, Lib.hid ⟨(hk3 bb (fun e => hne.out e.symm) _ _).trans hu3, (hk3 tb (by omega) _ _).trans hy3, set_two hz3 _ _, ((HBW.out.drew.trans (hw3.below hz1 (Nat.le_refl _))).setCell (p := ⟨wr.heap.size, 0, none⟩) hgz _).setCell (p := ⟨wr.heap.size, 1, none⟩) hgz _, hne.out, by omega, hgz⟩⟩
      case rest =>
        obtain ⟨g, rfl, rfl, hq2⟩ := hcut
        obtain ⟨hu2, ht2, hg2, hb2, hgb, hgt, hgz⟩ := hq2.out
        have hlt := Lib.hid (Nat.le_trans (size_go x c) hcl)
        generalize x.go c = c2 at *
        have b0' := (two_of hg2).c0
        have b1' := (two_of hg2).c1
        have t2 := two_of ht2
        have e0 := t2.c0
        have e1 := t2.c1
        have f0 := t2.f0
        have f1 := t2.f1
        have S3 := Lib.hid (show CU bb c2 ((wc.setCell ⟨tb, 0, none⟩ (.string (ba c2.b))).setCell ⟨tb, 1, none⟩ (.int .i64 c2.e)) ∧ ((wc.setCell ⟨tb, 0, none⟩ (.string (ba c2.b))).setCell ⟨tb, 1, none⟩ (.int .i64 c2.e)).heap[tb]? = some (.cells (cC c2) 35 (0, 0)) ∧ Below bb w ((wc.setCell ⟨tb, 0, none⟩ (.string (ba c2.b))).setCell ⟨tb, 1, none⟩ (.int .i64 c2.e)) ∧ bb < tb from
          ⟨((Below.heap_setCell _ _ _ _ (by simp; omega)).trans (Below.heap_setCell _ _ _ _ (by simp; omega))).trans hu2, set_two ht2 _ _, (hb2.setCell (p := ⟨tb, 0, none⟩) (by simp; omega) _).setCell (p := ⟨tb, 1, none⟩) (by simp; omega) _, htb⟩)
        clear hq2 hu2 ht2 hg2 hb2 t2 hu ht hbw hq hr0
        go_wp2_with fail
        generalize (wc.setCell ⟨tb, 0, none⟩ (.string (ba c2.b))).setCell ⟨tb, 1, none⟩ (.int .i64 c2.e) = W3 at *
        obtain ⟨hu3, ht3, hb3, _⟩ := S3.out
        have LL : ∀ wx, Below W3.heap.size W3 wx → Calls Try.prog 21 #[.pointer (some ⟨bb, 0, none⟩)] wx fun r w' => r = .returned (.int .i64 ((ba c2.b).size : Int)) ∧ Below wx.heap.size wx w' := fun wx hbx =>
          (left_calls bb c2 wx (hu3.keep hbx)).mono fun r w' ⟨h1, h2⟩ => ⟨h1, by rw [h2]; exact Below.refl _ _⟩
        have LE : ∀ wx, Below W3.heap.size W3 wx → Calls Try.prog 22 #[.pointer (some ⟨bb, 0, none⟩)] wx fun r w' => r = .returned (.int .i64 c2.e) ∧ Below wx.heap.size wx w' := fun wx hbx =>
          (err_calls bb c2 wx (hu3.keep hbx)).mono fun r w' ⟨h1, h2⟩ => ⟨h1, by rw [h2]; exact Below.refl _ _⟩
        have LD : ∀ wx, Below W3.heap.size W3 wx → Calls Try.prog 26 #[.pointer (some ⟨bb, 0, none⟩)] wx fun r w' => r = .returned (.int .i64 (doneC c2)) ∧ Below wx.heap.size wx w' := fun wx hbx =>
          (done_calls bb c2 wx (hu3.keep hbx) (by have := hlt.out; omega)).mono fun r w' ⟨h1, h2⟩ => ⟨h1, by rw [h2]; exact Below.refl _ _⟩
        have LR : ∀ wx, Below W3.heap.size W3 wx → Calls Try.prog 18 #[.agg #[.string (ba c2.b), .int .i64 c2.e]] wx fun r w' => r = .returned (.int .i64 (doneC c2)) ∧ Below wx.heap.size wx w' := fun wx _ => rdone_calls c2 wx
        have L0 : ∀ wx, Below W3.heap.size W3 wx → (Instr.loadAt 9 (.pointer (some ⟨tb, 0, none⟩))).run Try.prog wx = .ok (.string (ba c2.b)) wx := fun wx hbx => run_load_string ((two_of ((hbx.block tb (Array.getElem?_eq_some_iff.1 ht3).1).trans ht3)).c0)
        have L1 : ∀ wx, Below W3.heap.size W3 wx → (Instr.loadAt 31 (.pointer (some ⟨tb, 1, none⟩))).run Try.prog wx = .ok (.int .i64 c2.e) wx := fun wx hbx => run_load_errno ((two_of ((hbx.block tb (Array.getElem?_eq_some_iff.1 ht3).1).trans ht3)).c1)
        have L2 : ∀ wx, Below W3.heap.size W3 wx → (Instr.loadAt 35 (.pointer (some ⟨tb, 0, none⟩))).run Try.prog wx = .ok (.agg #[.string (ba c2.b), .int .i64 c2.e]) wx := fun wx hbx => loadAt_C ((hbx.block tb (Array.getElem?_eq_some_iff.1 ht3).1).trans ht3)
        clear hu3 ht3 hb3 b0' b1' e0 e1 f0 f1
        refine wp_region_quiet_below (by kernel_rfl) (by kernel_rfl) ?_
        repeat (first | (refine wpQuiet_load rfl 9 _ rfl _ rfl _ (rg_fact L0) ?_) | (refine wpQuiet_load rfl 31 _ rfl _ rfl _ (rg_fact L1) ?_) | (refine wpQuiet_load rfl 35 _ rfl _ rfl _ (rg_fact L2) ?_) | ((refine wpQuiet_call rfl 21 _ ?_ _ (rg_of LL) ?_); focus (intro wx; go_simp; done)) | ((refine wpQuiet_call rfl 22 _ ?_ _ (rg_of LE) ?_); focus (intro wx; go_simp; done)) | ((refine wpQuiet_call rfl 26 _ ?_ _ (rg_of LD) ?_); focus (intro wx; go_simp; done)) | ((refine wpQuiet_call rfl 18 _ ?_ _ (rg_of LR) ?_); focus (intro wx; go_simp; done)) | go_big_quiet_step (fail) | quiet_step (fail))
        refine wpQuiet_nil ?_
        rintro _ ⟨rp, rfl⟩
        have hb5 := below_regrown W3 rp.d rp.os
        generalize Sort.grow (redrawn W3 rp.d) rp.os = w5 at *
        have HS := Lib.hid (show CU bb c2 w5 ∧ w5.heap[tb]? = some (.cells (cC c2) 35 (0, 0)) ∧ Below bb w w5 ∧ bb < tb from by
          obtain ⟨hu3, ht3, hb3, h4⟩ := S3.out
          exact ⟨hu3.keep hb5, (hb5.block tb (Array.getElem?_eq_some_iff.1 ht3).1).trans ht3, hb3.trans (hb5.mono (by have := hu3.lt; omega)), h4⟩)
        clear LL LE LD LR L0 L1 L2 hb5
        go_wp2_with fail
        go_roundw
        case rel => exact ⟨k + 1, c2, by omega, hlt.out, by go_num, HS⟩
        case measure => simp [intOf] <;> omega
    · have LL := Lib.hid (show ∀ wx, Below wr.heap.size wr wx → Calls Try.prog 21 #[.pointer (some ⟨bb, 0, none⟩)] wx fun r w' => r = .returned (.int .i64 ((ba c.b).size : Int)) ∧ Below wx.heap.size wx w' from fun wx hbx =>
          (left_calls bb c wx (hu.keep hbx)).mono fun r w' ⟨h1, h2⟩ => ⟨h1, by rw [h2]; exact Below.refl _ _⟩)
      have LA := Lib.hid (show ∀ wx, Below wr.heap.size wr wx → Calls Try.prog 25 #[] wx fun r w' => r = .returned (.bool true) ∧ Below wx.heap.size wx w' from fun wx _ => awake_calls wx)
      have L0 := Lib.hid (show ∀ wx, Below wr.heap.size wr wx → (Instr.loadAt 9 (.pointer (some ⟨tb, 0, none⟩))).run Try.prog wx = .ok (.string (ba c.b)) wx from fun wx hbx => run_load_string ((two_of ((hbx.block tb (Array.getElem?_eq_some_iff.1 ht).1).trans ht)).c0))
      have Hbw := Lib.hid hbw
      clear hu ht hbw hq
      by_cases hkl : k < l.length
      · have hk1 : ¬ k < 100 := fun e => hgo ⟨hkl, e⟩
        clear hgo
        go_wp2_with fail
        refine wp_region_quiet_below (by kernel_rfl) (by kernel_rfl) ?_
        repeat (first | (refine wpQuiet_load rfl 9 _ rfl _ rfl _ (rg_fact L0.out) ?_) | ((refine wpQuiet_call rfl 21 _ ?_ _ (rg_of LL.out) ?_); focus (intro wx; go_simp; done)) | ((refine wpQuiet_call rfl 25 _ ?_ _ (rg_of LA.out) ?_); focus (intro wx; go_simp; done)) | go_big_quiet_step (fail) | quiet_step (fail))
        refine wpQuiet_nil ?_
        rintro _ ⟨rp, rfl⟩
        have hb5 := below_regrown wr rp.d rp.os
        generalize Sort.grow (redrawn wr rp.d) rp.os = w5 at *
        have hfin := Lib.hid (Hbw.out.trans (hb5.mono (by have := Hbw.out.size; rw [Hbb.out] at this; exact this)))
        clear hb5
        go_wp2_with fail
        go_ret
        exact ⟨rfl, by rw [Hbb.out]; exact hfin.out⟩
      · clear hgo
        go_wp2_with fail
        refine wp_region_quiet_below (by kernel_rfl) (by kernel_rfl) ?_
        repeat (first | (refine wpQuiet_load rfl 9 _ rfl _ rfl _ (rg_fact L0.out) ?_) | ((refine wpQuiet_call rfl 21 _ ?_ _ (rg_of LL.out) ?_); focus (intro wx; go_simp; done)) | ((refine wpQuiet_call rfl 25 _ ?_ _ (rg_of LA.out) ?_); focus (intro wx; go_simp; done)) | go_big_quiet_step (fail) | quiet_step (fail))
        refine wpQuiet_nil ?_
        rintro _ ⟨rp, rfl⟩
        have hb5 := below_regrown wr rp.d rp.os
        generalize Sort.grow (redrawn wr rp.d) rp.os = w5 at *
        have hfin := Lib.hid (Hbw.out.trans (hb5.mono (by have := Hbw.out.size; rw [Hbb.out] at this; exact this)))
        clear hb5
        go_wp2_with fail
        go_ret
        exact ⟨rfl, by rw [Hbb.out]; exact hfin.out⟩
end Go.Proofs.Ytgdlhcopgfgmaaa.Cur
