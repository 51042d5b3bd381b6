/- The walks of chapter 38's each, Count and Places. -/
import Derived.RangeFuncNested
import Derived.RangeFuncBound
import Derived.RangeFuncCalls
import Derived.RangeFuncLeaves
import Derived.Shelf.Abstract
import Derived.Shelf.RegionOpen
import Derived.WalkKit
import Derived.OwnWalkIn
import Derived.TacticsInMore
import Derived.LoopNIn
import Derived.LoopIn
import Derived.Maps.AppendAt
import Derived.Test.YtihdeanfcbiflaaDoorRow1
import Derived.Test.YtihdeanfcbiflaaDoorProg
namespace Go.Proofs.YtihdeanfcbiflaaDoor.Up
open Go.RowKit Go.Shelf Go.Proofs.YtihdeanfcbiflaaDoor.Mk
attribute [local go_sem] Oper.semAt_some
def zI (z : Int) : Value := .int .i64 z
/-- a slice of numbers -/
abbrev ZS (w : World) (v : Value) (zs : List Int) : Prop := SL (E1 zI) 1 w v zs
/-- the places of a level or above -/
def plc (zs : List Int) (level : Int) (k : Nat) : List Nat := (List.range k).filter fun i => decide (level ≤ zs[i]?.getD 0)
theorem plc_zero (zs : List Int) (level : Int) : plc zs level 0 = [] := rfl
theorem plc_yes {zs : List Int} {level : Int} {k : Nat} (h : level ≤ zs[k]?.getD 0) : plc zs level (k + 1) = plc zs level k ++ [k] := by
  unfold plc
  rw [List.range_succ, List.filter_append]
  simp [h]
theorem plc_no {zs : List Int} {level : Int} {k : Nat} (h : ¬ level ≤ zs[k]?.getD 0) : plc zs level (k + 1) = plc zs level k := by
  unfold plc
  rw [List.range_succ, List.filter_append]
  simp [h]
theorem plc_len (zs : List Int) (level : Int) (k : Nat) : (plc zs level k).length ≤ k := by
  unfold plc
  exact Nat.le_trans (List.length_filter_le _ _) (by simp)
theorem plc_pre (zs : List Int) (level : Int) {k n : Nat} (h : k ≤ n) : plc zs level k <+: plc zs level n := by
  obtain ⟨d, rfl⟩ := Nat.le.dest h
  induction d with
  | zero => exact List.prefix_refl _
  | succ d ih =>
    refine (ih (Nat.le_add_right _ _)).trans ?_
    by_cases hc : level ≤ zs[k + d]?.getD 0
    · rw [show k + (d + 1) = k + d + 1 from rfl, plc_yes hc]; exact List.prefix_append _ _
    · rw [show k + (d + 1) = k + d + 1 from rfl, plc_no hc]; exact List.prefix_refl _
theorem plc_lt {zs : List Int} {level : Int} {k n : Nat} (h : k < n) (hc : level ≤ zs[k]?.getD 0) : (plc zs level k).length < (plc zs level n).length := by
  have h1 := (plc_pre zs level (show k + 1 ≤ n from h)).length_le
  rw [plc_yes hc, List.length_append] at h1
  simp at h1
  omega
/-- below n0, but for a block, all is as it was -/
def KB (n0 B : Nat) (W W' : World) : Prop := W.heap.size ≤ W'.heap.size ∧ ∀ k, k < n0 → k ≠ B → W'.heap[k]? = W.heap[k]?
theorem KB.trans {n0 B : Nat} {X Y Z : World} (h : KB n0 B X Y) (k : KB n0 B Y Z) : KB n0 B X Z := ⟨Nat.le_trans h.1 k.1, fun i hi hn => (k.2 i hi hn).trans (h.2 i hi hn)⟩
theorem KB.refl (n0 B : Nat) (W : World) : KB n0 B W W := ⟨Nat.le_refl _, fun _ _ _ => rfl⟩
theorem KB.of_below {n0 B : Nat} {W W' : World} (h : Below n0 W W') : KB n0 B W W' := ⟨h.size, fun k hk _ => h.block k hk⟩
theorem KB.put {n0 B : Nat} {w : World} (hn : n0 ≤ w.heap.size) (W : World) (l : Nat) (o o' : Obj) (hl : w.heap.size ≤ l) (h : W.heap[l]? = some o) (h1 : o.isCells = false) (h2 : o.isWalk = false) : KB n0 B W (W.putObj l o') :=
  KB.of_below (belowK_b (w := w) hn W l o o' hl h h1 h2)
theorem KB.cell {n0 B : Nat} {W W' : World} (h : KB n0 B W W') {a : Addr} (ha : a.block < n0) (hb : a.block ≠ B) : W'.cell? a = W.cell? a := World.cell?_of_block (h.2 _ ha hb)
theorem KB.set {n0 B : Nat} {W W' : World} (h : KB n0 B W W') {p : Addr} (hp : p.block = B) (u : Value) : KB n0 B W (W'.setCell p u) :=
  ⟨by simpa [World.setCell] using h.1, fun k hk hn => (Below.heap_setCell _ _ _ _ (by rw [hp]; exact hn)).trans (h.2 k hk hn)⟩
theorem SL.same {α : Type} {enc : α → List Value} {sz : Nat} {w w' : World} {v : Value} {l : List α} (h : SL enc sz w v l) (hb : ∀ k, k < w.heap.size → w'.heap[k]? = w.heap[k]?) : SL enc sz w' v l := by
  obtain ⟨h1, h2, A, c, h3, h4, h5, h6⟩ := h
  refine ⟨h1, h2, A, c, h3, h4, h5, fun hp => ?_⟩
  obtain ⟨b, o, h7, h8⟩ := h6 hp
  refine ⟨b, o, h7, fun k x hk j u hj => ?_⟩
  have h9 := h8 k x hk j u hj
  exact (World.cell?_of_block (hb _ (block_lt_of_cell h9))).trans h9
theorem each_calls (A : Option Addr) (n c : Nat) (level : Int) (w : World) :
    Calls Tryd.prog 55 #[.slice A n c, .int .i64 0, .int .i64 level] w fun e w' => e = .returned (.func (.func 61) #[] #[.pointer (some ⟨w.heap.size + 1, 0, none⟩), .pointer (some ⟨w.heap.size, 0, none⟩), .pointer (some ⟨w.heap.size + 1 + 1, 0, none⟩)]) ∧
      w' = ((w.alloc (.cells #[.slice A n c] 36)).alloc (.cells #[.int .i64 0] 3)).alloc (.cells #[.int .i64 level] 3) := by
  go_enter Tryd.func55, Tryd.ntmps55
  go_wp2_with fail
  go_ret
  exact ⟨rfl, rfl⟩
set_option maxRecDepth 100000 in
set_option maxHeartbeats 4000000 in
theorem each1_stops (B1 B2 B3 BX n₀ : Nat) (zs : List Int) (level : Int) (A : Option Addr) (cap : Nat) (L : List Nat) (hL : Hid (plc zs level zs.length = L)) (w : World) (hz : ∀ W, KB n₀ BX w W → ZS W (.slice A zs.length cap) zs) (hn₀ : n₀ ≤ w.heap.size)
    (h1 : B1 < n₀) (h2 : B2 < n₀) (h3 : B3 < n₀) (x1 : B1 ≠ BX) (x2 : B2 ≠ BX) (x3 : B3 ≠ BX)
    (c1 : w.cell? ⟨B1, 0, none⟩ = some (.int .i64 0)) (c2 : w.cell? ⟨B2, 0, none⟩ = some (.slice A zs.length cap)) (c3 : w.cell? ⟨B3, 0, none⟩ = some (.int .i64 level)) :
    SeqStopsK Fence.wide 0 Tryd.prog 61 #[.pointer (some ⟨B1, 0, none⟩), .pointer (some ⟨B2, 0, none⟩), .pointer (some ⟨B3, 0, none⟩)] (fun x : Nat => #[Value.int .i64 x]) (KB n₀ BX) (fun ys => ys = L) (fun pre => pre <+: L) L.length w := by
  intro l J Jx W hW hJa _ hY h0
  have HJa := Lib.hid hJa
  clear hJa
  have hKW : KB n₀ BX w W := KB.of_below (hW.mono hn₀)
  have HZ := Lib.hid hz
  have hbd := (hz W hKW).len1
  clear hz
  refine callsIn_of_wp Tryd.func61 rfl trivial ?_ rfl
  simp only [Tryd.ntmps61, List.size_toArray, List.length_cons, List.length_nil, Nat.reduceAdd, Nat.reduceSub, Array.replicate_succ, Array.replicate_zero, List.push_toArray, List.append_toArray, List.nil_append, List.cons_append]
  have d1 := (hKW.cell (a := ⟨B1, 0, none⟩) h1 x1).trans c1
  have hmax : max (0 : Int) 0 = 0 := by decide
  gi_wp2
  clear d1
  gi_loopw [5] (fun s5 wr => ∃ k : Nat, k ≤ zs.length ∧ s5 = .int .i64 k ∧ J (plc zs level k) wr ∧ KB n₀ BX w wr) (fun s5 _ => zs.length - (intOf s5).toNat)
  case atStart => exact ⟨0, by omega, rfl, h0, hKW⟩
  case round =>
    obtain ⟨k, hk, rfl, hJ, hK⟩ := hrel
    have d2 := (hK.cell (a := ⟨B2, 0, none⟩) h2 x2).trans c2
    have d3 := (hK.cell (a := ⟨B3, 0, none⟩) h3 x3).trans c3
    by_cases hlt : k < zs.length
    · obtain ⟨A', c', he, hlc, hcm, hex⟩ := (HZ.out wr hK).cell1
      cases he
      obtain ⟨b, o, rfl, hx⟩ := hex (by omega)
      have hxk := hx k zs[k] (List.getElem?_eq_getElem hlt)
      have hgd : zs[k]?.getD 0 = zs[k] := by rw [List.getElem?_eq_getElem hlt]; rfl
      unfold zI at hxk
      clear hx hex
      by_cases hlv : level ≤ zs[k]?.getD 0
      · have hst := plc_yes hlv
        have hlen : (plc zs level k).length < L.length := by rw [← hL.out]; exact plc_lt hlt hlv
        obtain ⟨fn, tmps, assign, body, hy, hR⟩ := hY (plc zs level k) k wr.drew (HJa.out _ _ _ none hJ ⟨rfl, rfl, rfl, Nat.le_refl _, fun _ _ _ => rfl⟩ (fun _ e => by cases e)) hlen
        have hR := hR.mono (R' := fun e W' => ∃ r : Bool, e = .returned (.bool r) ∧ Hid ((r = true ∧ J (plc zs level (k + 1)) W' ∧ KB n₀ BX wr.drew W') ∨ (r = false ∧ Jx (plc zs level (k + 1)) W'))) (by
          rw [hst]
          rintro e W' (⟨h1, h2, h3⟩ | ⟨h1, h2⟩)
          · exact ⟨true, h1, Lib.hid (.inl ⟨rfl, h2, h3⟩)⟩
          · exact ⟨false, h1, Lib.hid (.inr ⟨rfl, h2⟩)⟩)
        have hpre : plc zs level (k + 1) <+: L := by rw [← hL.out]; exact plc_pre zs level (by omega)
        have HP := Lib.hid hpre
        rw [hgd] at hlv
        have HST := Lib.hid hst
        clear hlen hst hgd hpre hJ
        generalize zs[k] = z at *
        have t1 : decide (level ≤ z) = true := decide_eq_true hlv
        clear hlv
        gi_wp2
        gi_region_with ((refine ⟨rfl, hR.mono ?_⟩; rintro e W2 ⟨r, rfl, hr⟩))
        clear hR hy hY
        all_goals
          rcases hr.out with ⟨rfl, hJ2, hK2⟩ | ⟨rfl, hx2⟩
          · clear hr hxk d2 d3 c2 c3
            have hKn := hK.trans ((KB.of_below (Below.refl n₀ wr).drew).trans hK2)
            gi_wp2
            exact ⟨⟨k + 1, by omega, by go_num, hJ2, hKn⟩, by simp [intOf] <;> omega⟩
          · clear hr hxk d2 d3 c2 c3
            gi_wp2
            refine bodyPost_ret (results_none rfl _ _ _) rfl ?_
            exact ⟨⟨_, rfl⟩, .inr ⟨_, HP.out, hx2⟩⟩
      · have hst := plc_no hlv
        rw [hgd] at hlv
        have HST := Lib.hid hst
        rw [← hst] at hJ
        clear hst hgd
        generalize zs[k] = z at *
        have t1 : decide (level ≤ z) = false := decide_eq_false hlv
        have hJd := HJa.out _ _ wr.drew none hJ ⟨rfl, rfl, rfl, Nat.le_refl _, fun _ _ _ => rfl⟩ (fun _ e => by cases e)
        clear hlv hY
        gi_wp2
        refine wpIn_region_any (by kernel_rfl) ?_
        change wpAnyIn _ _ _ _ _ _ _ _ _ (World.drew _)
        have hKn := hK.trans (KB.of_below (Below.refl n₀ wr).drew)
        have i1 : ¬ (k : Int) < 0 := by omega
        have i2 : (k : Int) < (zs.length : Int) := by omega
        refine wpAnyIn_take (i := 1) (oi := ⟨some 15, _, _, _, _, _⟩) (v := .int .i64 (k : Int)) rfl rfl (by kernel_rfl) (by kernel_rfl) (by kernel_rfl) (fun _ _ _ h => h) ⟨Or.inl ⟨by rfl, by intro wx; go_simp⟩, fun _ => rfl⟩ ?_
        try simp only [Act.put, List.setIfInBounds_toArray, List.set_cons_zero, List.set_cons_succ]
        refine wpAnyIn_ready (rs := [0, 4]) (by kernel_rfl) (by simp) ?_
        refine AllReadyIn.cons rfl (fun K hK => ?_) (AllReadyIn.cons rfl (fun K hK => ?_) AllReadyIn.nil)
        · go_simp
          refine hK _ _ ?_
          clear hK K
          refine wpAnyIn_take (i := 2) (oi := ⟨some 16, _, _, _, _, _⟩) (v := .pointer (some ⟨b, o + k, none⟩)) rfl rfl (by kernel_rfl) (by kernel_rfl) (by kernel_rfl) (fun _ _ _ h => h) ⟨Or.inl ⟨by rfl, by intro wx; go_simp⟩, fun _ => rfl⟩ ?_
          try simp only [Act.put, List.setIfInBounds_toArray, List.set_cons_zero, List.set_cons_succ]
          refine wpAnyIn_ready (rs := [3, 4]) (by kernel_rfl) (by simp) ?_
          refine AllReadyIn.cons rfl (fun K hK => ?_) (AllReadyIn.cons rfl (fun K hK => ?_) AllReadyIn.nil)
          · go_simp
            refine hK _ _ ?_
            clear hK K
            refine wpAnyIn_ready (rs := [4]) (by kernel_rfl) (by simp) ?_
            refine AllReadyIn.cons rfl (fun K hK => ?_) AllReadyIn.nil
            · go_simp
              refine hK _ _ ?_
              clear hK K
              refine wpAnyIn_take (i := 5) (oi := ⟨some 19, _, _, _, _, _⟩) (v := .bool false) rfl rfl (by kernel_rfl) (by kernel_rfl) (by kernel_rfl) (fun _ _ _ h => h) ⟨Or.inl ⟨by rfl, by intro wx; go_simp⟩, fun _ => rfl⟩ ?_
              try simp only [Act.put, List.setIfInBounds_toArray, List.set_cons_zero, List.set_cons_succ]
              refine wpAnyIn_take (i := 6) (oi := ⟨some 20, _, _, _, _, _⟩) (v := .bool false) rfl rfl (by kernel_rfl) (by kernel_rfl) (by kernel_rfl) (fun _ _ _ h => h) ⟨Or.inl ⟨by rfl, by intro wx; go_simp⟩, fun _ => rfl⟩ ?_
              try simp only [Act.put, List.setIfInBounds_toArray, List.set_cons_zero, List.set_cons_succ]
              refine wpAnyIn_take (i := 7) (oi := ⟨some 21, _, _, _, _, _⟩) (v := undef) rfl rfl (by kernel_rfl) (by kernel_rfl) (by kernel_rfl) (fun _ _ _ h => h) ⟨Or.inr ⟨by rfl, rfl⟩, fun _ => rfl⟩ ?_
              try simp only [Act.put, List.setIfInBounds_toArray, List.set_cons_zero, List.set_cons_succ]
              refine wpAnyIn_take (i := 8) (oi := ⟨some 22, _, _, _, _, _⟩) (v := undef) rfl rfl (by kernel_rfl) (by kernel_rfl) (by kernel_rfl) (fun _ _ _ h => h) ⟨Or.inr ⟨by rfl, rfl⟩, fun _ => rfl⟩ ?_
              try simp only [Act.put, List.setIfInBounds_toArray, List.set_cons_zero, List.set_cons_succ]
              refine wpAnyIn_take (i := 9) (oi := ⟨some 23, _, _, _, _, _⟩) (v := undef) rfl rfl (by kernel_rfl) (by kernel_rfl) (by kernel_rfl) (fun _ _ _ h => h) ⟨Or.inr ⟨by rfl, rfl⟩, fun _ => rfl⟩ ?_
              try simp only [Act.put, List.setIfInBounds_toArray, List.set_cons_zero, List.set_cons_succ]
              refine wpAnyIn_take (i := 10) (oi := ⟨some 24, _, _, _, _, _⟩) (v := undef) rfl rfl (by kernel_rfl) (by kernel_rfl) (by kernel_rfl) (fun _ _ _ h => h) ⟨Or.inr ⟨by rfl, rfl⟩, fun _ => rfl⟩ ?_
              try simp only [Act.put, List.setIfInBounds_toArray, List.set_cons_zero, List.set_cons_succ]
              refine wpAnyIn_take (i := 11) (oi := ⟨some 25, _, _, _, _, _⟩) (v := .bool false) rfl rfl (by kernel_rfl) (by kernel_rfl) (by kernel_rfl) (fun _ _ _ h => h) ⟨Or.inl ⟨by rfl, by intro wx; go_simp⟩, fun _ => rfl⟩ ?_
              try simp only [Act.put, List.setIfInBounds_toArray, List.set_cons_zero, List.set_cons_succ]
              refine wpAnyIn_done (by kernel_rfl) ?_ _
              gi_wp2
              exact ⟨⟨k + 1, by omega, by go_num, hJd, hKn⟩, by simp [intOf] <;> omega⟩
          · go_simp
            refine hK _ _ ?_
            clear hK K
            refine wpAnyIn_ready (rs := [3]) (by kernel_rfl) (by simp) ?_
            refine AllReadyIn.cons rfl (fun K hK => ?_) AllReadyIn.nil
            · go_simp
              refine hK _ _ ?_
              clear hK K
              refine wpAnyIn_take (i := 5) (oi := ⟨some 19, _, _, _, _, _⟩) (v := .bool false) rfl rfl (by kernel_rfl) (by kernel_rfl) (by kernel_rfl) (fun _ _ _ h => h) ⟨Or.inl ⟨by rfl, by intro wx; go_simp⟩, fun _ => rfl⟩ ?_
              try simp only [Act.put, List.setIfInBounds_toArray, List.set_cons_zero, List.set_cons_succ]
              refine wpAnyIn_take (i := 6) (oi := ⟨some 20, _, _, _, _, _⟩) (v := .bool false) rfl rfl (by kernel_rfl) (by kernel_rfl) (by kernel_rfl) (fun _ _ _ h => h) ⟨Or.inl ⟨by rfl, by intro wx; go_simp⟩, fun _ => rfl⟩ ?_
              try simp only [Act.put, List.setIfInBounds_toArray, List.set_cons_zero, List.set_cons_succ]
              refine wpAnyIn_take (i := 7) (oi := ⟨some 21, _, _, _, _, _⟩) (v := undef) rfl rfl (by kernel_rfl) (by kernel_rfl) (by kernel_rfl) (fun _ _ _ h => h) ⟨Or.inr ⟨by rfl, rfl⟩, fun _ => rfl⟩ ?_
              try simp only [Act.put, List.setIfInBounds_toArray, List.set_cons_zero, List.set_cons_succ]
              refine wpAnyIn_take (i := 8) (oi := ⟨some 22, _, _, _, _, _⟩) (v := undef) rfl rfl (by kernel_rfl) (by kernel_rfl) (by kernel_rfl) (fun _ _ _ h => h) ⟨Or.inr ⟨by rfl, rfl⟩, fun _ => rfl⟩ ?_
              try simp only [Act.put, List.setIfInBounds_toArray, List.set_cons_zero, List.set_cons_succ]
              refine wpAnyIn_take (i := 9) (oi := ⟨some 23, _, _, _, _, _⟩) (v := undef) rfl rfl (by kernel_rfl) (by kernel_rfl) (by kernel_rfl) (fun _ _ _ h => h) ⟨Or.inr ⟨by rfl, rfl⟩, fun _ => rfl⟩ ?_
              try simp only [Act.put, List.setIfInBounds_toArray, List.set_cons_zero, List.set_cons_succ]
              refine wpAnyIn_take (i := 10) (oi := ⟨some 24, _, _, _, _, _⟩) (v := undef) rfl rfl (by kernel_rfl) (by kernel_rfl) (by kernel_rfl) (fun _ _ _ h => h) ⟨Or.inr ⟨by rfl, rfl⟩, fun _ => rfl⟩ ?_
              try simp only [Act.put, List.setIfInBounds_toArray, List.set_cons_zero, List.set_cons_succ]
              refine wpAnyIn_take (i := 11) (oi := ⟨some 25, _, _, _, _, _⟩) (v := .bool false) rfl rfl (by kernel_rfl) (by kernel_rfl) (by kernel_rfl) (fun _ _ _ h => h) ⟨Or.inl ⟨by rfl, by intro wx; go_simp⟩, fun _ => rfl⟩ ?_
              try simp only [Act.put, List.setIfInBounds_toArray, List.set_cons_zero, List.set_cons_succ]
              refine wpAnyIn_done (by kernel_rfl) ?_ _
              gi_wp2
              exact ⟨⟨k + 1, by omega, by go_num, hJd, hKn⟩, by simp [intOf] <;> omega⟩
        · go_simp
          refine hK _ _ ?_
          clear hK K
          refine wpAnyIn_ready (rs := [0]) (by kernel_rfl) (by simp) ?_
          refine AllReadyIn.cons rfl (fun K hK => ?_) AllReadyIn.nil
          · go_simp
            refine hK _ _ ?_
            clear hK K
            refine wpAnyIn_take (i := 2) (oi := ⟨some 16, _, _, _, _, _⟩) (v := .pointer (some ⟨b, o + k, none⟩)) rfl rfl (by kernel_rfl) (by kernel_rfl) (by kernel_rfl) (fun _ _ _ h => h) ⟨Or.inl ⟨by rfl, by intro wx; go_simp⟩, fun _ => rfl⟩ ?_
            try simp only [Act.put, List.setIfInBounds_toArray, List.set_cons_zero, List.set_cons_succ]
            refine wpAnyIn_ready (rs := [3]) (by kernel_rfl) (by simp) ?_
            refine AllReadyIn.cons rfl (fun K hK => ?_) AllReadyIn.nil
            · go_simp
              refine hK _ _ ?_
              clear hK K
              refine wpAnyIn_take (i := 5) (oi := ⟨some 19, _, _, _, _, _⟩) (v := .bool false) rfl rfl (by kernel_rfl) (by kernel_rfl) (by kernel_rfl) (fun _ _ _ h => h) ⟨Or.inl ⟨by rfl, by intro wx; go_simp⟩, fun _ => rfl⟩ ?_
              try simp only [Act.put, List.setIfInBounds_toArray, List.set_cons_zero, List.set_cons_succ]
              refine wpAnyIn_take (i := 6) (oi := ⟨some 20, _, _, _, _, _⟩) (v := .bool false) rfl rfl (by kernel_rfl) (by kernel_rfl) (by kernel_rfl) (fun _ _ _ h => h) ⟨Or.inl ⟨by rfl, by intro wx; go_simp⟩, fun _ => rfl⟩ ?_
              try simp only [Act.put, List.setIfInBounds_toArray, List.set_cons_zero, List.set_cons_succ]
              refine wpAnyIn_take (i := 7) (oi := ⟨some 21, _, _, _, _, _⟩) (v := undef) rfl rfl (by kernel_rfl) (by kernel_rfl) (by kernel_rfl) (fun _ _ _ h => h) ⟨Or.inr ⟨by rfl, rfl⟩, fun _ => rfl⟩ ?_
              try simp only [Act.put, List.setIfInBounds_toArray, List.set_cons_zero, List.set_cons_succ]
              refine wpAnyIn_take (i := 8) (oi := ⟨some 22, _, _, _, _, _⟩) (v := undef) rfl rfl (by kernel_rfl) (by kernel_rfl) (by kernel_rfl) (fun _ _ _ h => h) ⟨Or.inr ⟨by rfl, rfl⟩, fun _ => rfl⟩ ?_
              try simp only [Act.put, List.setIfInBounds_toArray, List.set_cons_zero, List.set_cons_succ]
              refine wpAnyIn_take (i := 9) (oi := ⟨some 23, _, _, _, _, _⟩) (v := undef) rfl rfl (by kernel_rfl) (by kernel_rfl) (by kernel_rfl) (fun _ _ _ h => h) ⟨Or.inr ⟨by rfl, rfl⟩, fun _ => rfl⟩ ?_
              try simp only [Act.put, List.setIfInBounds_toArray, List.set_cons_zero, List.set_cons_succ]
              refine wpAnyIn_take (i := 10) (oi := ⟨some 24, _, _, _, _, _⟩) (v := undef) rfl rfl (by kernel_rfl) (by kernel_rfl) (by kernel_rfl) (fun _ _ _ h => h) ⟨Or.inr ⟨by rfl, rfl⟩, fun _ => rfl⟩ ?_
              try simp only [Act.put, List.setIfInBounds_toArray, List.set_cons_zero, List.set_cons_succ]
              refine wpAnyIn_take (i := 11) (oi := ⟨some 25, _, _, _, _, _⟩) (v := .bool false) rfl rfl (by kernel_rfl) (by kernel_rfl) (by kernel_rfl) (fun _ _ _ h => h) ⟨Or.inl ⟨by rfl, by intro wx; go_simp⟩, fun _ => rfl⟩ ?_
              try simp only [Act.put, List.setIfInBounds_toArray, List.set_cons_zero, List.set_cons_succ]
              refine wpAnyIn_done (by kernel_rfl) ?_ _
              gi_wp2
              exact ⟨⟨k + 1, by omega, by go_num, hJd, hKn⟩, by simp [intOf] <;> omega⟩
    · obtain rfl : k = zs.length := by omega
      clear hY
      gi_wp2
      go_end0
      refine ⟨⟨_, rfl⟩, .inl ⟨_, rfl, ?_⟩⟩
      rw [← hL.out]
      exact hJ
/-- how many are of a level, or above -/
def cnt (zs : List Int) (level : Int) : Nat := (plc zs level zs.length).length
theorem cnt_le (zs : List Int) (level : Int) : cnt zs level ≤ zs.length := plc_len _ _ _
set_option maxRecDepth 100000 in
set_option maxHeartbeats 4000000 in
theorem count_calls (v : Value) (zs : List Int) (level : Int) (w : World) (hz : ZS w v zs) :
    Calls Tryd.prog 47 #[v, .int .i64 level] w fun e w' => e = .returned (.int .i64 (cnt zs level : Nat)) ∧ Below w.heap.size w w' := by
  have hbd := hz.len1
  obtain ⟨A, cap, rfl, hlc, hcm, _⟩ := hz.cell1
  have HE := Lib.hid (fun w => each_calls A zs.length cap level w)
  refine (callsIn_wide (n := 1)).1 ?_
  refine callsIn_of_wp_marks Tryd.func47 rfl trivial ?_ rfl
  simp only [Tryd.ntmps47, List.size_toArray, List.length_cons, List.length_nil, Nat.reduceAdd, Nat.reduceSub, Array.replicate_succ, Array.replicate_zero, List.push_toArray, List.append_toArray, List.nil_append, List.cons_append]
  gi_wp2_with (refine ⟨trivial, (callsIn_wide.2 (HE.out _)).mono ?_⟩; rintro e w1 ⟨rfl, rfl⟩)
  have hB0 : Below w.heap.size w ((((w.alloc (.cells #[.int .i64 0] 3)).alloc (.cells #[.slice A zs.length cap] 36)).alloc (.cells #[.int .i64 0] 3)).alloc (.cells #[.int .i64 level] 3)) :=
    ((((Below.refl _ w).alloc (Nat.le_refl _) _).alloc (by simp) _).alloc (by simp <;> omega) _).alloc (by simp <;> omega) _
  have b0 := (((Boxed.new w 3 (.int .i64 0)).alloc (.cells #[.slice A zs.length cap] 36)).alloc (.cells #[.int .i64 0] 3)).alloc (.cells #[.int .i64 level] 3)
  have b1 := ((Boxed.new (w.alloc (.cells #[.int .i64 0] 3)) 36 (.slice A zs.length cap)).alloc (.cells #[.int .i64 0] 3)).alloc (.cells #[.int .i64 level] 3)
  have b2 := (Boxed.new ((w.alloc (.cells #[.int .i64 0] 3)).alloc (.cells #[.slice A zs.length cap] 36)) 3 (.int .i64 0)).alloc (.cells #[.int .i64 level] 3)
  have b3 := Boxed.new (((w.alloc (.cells #[.int .i64 0] 3)).alloc (.cells #[.slice A zs.length cap] 36)).alloc (.cells #[.int .i64 0] 3)) 3 (.int .i64 level)
  simp only [World.size_alloc] at b0 b1 b2 b3
  obtain ⟨W0, hW0⟩ : ∃ W0, ((((w.alloc (.cells #[.int .i64 0] 3)).alloc (.cells #[.slice A zs.length cap] 36)).alloc (.cells #[.int .i64 0] 3)).alloc (.cells #[.int .i64 level] 3)) = W0 := ⟨_, rfl⟩
  have hsz : W0.heap.size = w.heap.size + 4 := by rw [← hW0]; simp
  rw [hW0] at b0 b1 b2 b3 hB0 ⊢
  clear hW0 HE
  have hcl := cnt_le zs level
  refine wpIn_rangeFunc_ownG rfl (by omega) (gf := 61) (lb := #[.pointer (some ⟨w.heap.size + 1 + 1, 0, none⟩), .pointer (some ⟨w.heap.size + 1, 0, none⟩), .pointer (some ⟨w.heap.size + 1 + 1 + 1, 0, none⟩)]) rfl trivial (enters_of Tryd.func61 (by kernel_rfl) rfl)
    (each1_stops (w.heap.size + 1 + 1) (w.heap.size + 1) (w.heap.size + 1 + 1 + 1) w.heap.size W0.heap.size zs level A cap (plc zs level zs.length) (Lib.hid rfl) W0 (fun W hK => SL.same hz (fun k hk => (hK.2 k (by omega) (by omega)).trans (hB0.block k hk))) (Nat.le_refl _)
      (by omega) (by omega) (by omega) (by omega) (by omega) (by omega) b2.cell b1.cell b3.cell)
    KB.trans (KB.put (Nat.le_refl _)) (Below.refl _ _) (fun _ => rfl)
    (fun pre W => (W.cell? ⟨w.heap.size, 0, none⟩ = some (.int .i64 (pre.length : Nat)) ∧ W.frozen? ⟨w.heap.size, 0, none⟩ = false) ∧ Below w.heap.size w W)
    (fun _ _ _ => False)
    (OwnFrom.and (Own.from (fun s A B row hs hg hr => ⟨cell_kept hs.1 hg hr, (frozen_kept hs.1 hg hr).trans hs.2⟩) _) (ownFrom_below (Nat.le_refl _) (by omega)))
    (fun _ _ _ _ _ hs _ _ => hs)
    ⟨⟨b0.cell, b0.frozen⟩, hB0⟩
    (fun x => { tmps := #[.slice A zs.length cap, .int .i64 level, undef, undef, .int .i64 0, .pointer (some ⟨w.heap.size, 0, none⟩), .slice A zs.length cap, .int .i64 level, .func (.func 61) #[] #[.pointer (some ⟨w.heap.size + 1 + 1, 0, none⟩), .pointer (some ⟨w.heap.size + 1, 0, none⟩), .pointer (some ⟨w.heap.size + 1 + 1 + 1, 0, none⟩)], .int .i64 x, undef, undef, undef], defers := [] }) ?assign ?body ?done ?stop
  case assign =>
    intro l x W K hK
    gi_wp2
    simpa using hK
  case body =>
    rintro l pre x W ⟨⟨hc, hf⟩, hB⟩ hlt
    have hpl : pre.length < zs.length := Nat.lt_of_lt_of_le hlt hcl
    clear hlt
    gi_wp2
    exact ⟨(KeepsOthers.setCell _ _ _).from _, KB.set (KB.refl _ _ _) rfl _, ⟨by rw [List.length_append]; exact World.cell?_setCell_same' _ _ _ (by rw [hc]; rfl), by rw [World.frozen?_setCell]; exact hf⟩, hB.setCell (p := ⟨w.heap.size, 0, none⟩) (Nat.le_refl _) _⟩
  case done =>
    rintro D ys W hD rfl ⟨⟨hc, hf⟩, hB⟩ hK
    gi_wp2
    refine ⟨by simp, .inl ⟨_, _, rfl, run_takeDeferred hK, ?_⟩⟩
    exact ⟨_, results_tmp rfl _ _ _, rfl, hB.trans (belowK_b (w := w) (Nat.le_refl _) W D _ _ (by omega) hK rfl rfl)⟩
  case stop =>
    rintro D c pre W _ _ h _
    exact h.elim
end Go.Proofs.YtihdeanfcbiflaaDoor.Up
