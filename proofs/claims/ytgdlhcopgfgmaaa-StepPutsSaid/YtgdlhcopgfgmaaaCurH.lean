/- The walk of the document's cursor (a value): Hash. -/
import Derived.Test.YtgdlhcopgfgmaaaStep
import Derived.Test.YtgdlhcopgfgmaaaCurN
namespace Go.Proofs.Ytgdlhcopgfgmaaa.Cur
open Go.RowKit Go.Proofs.Ytgdlhcopgfgmaaa.Mk
theorem loadAt_C {w : World} {g : Nat} {a b : Value} {fr : Nat × Nat} {t : TypeId} (h : w.heap[g]? = some (.cells #[a, b] t fr)) : (Instr.loadAt 35 (.pointer (some ⟨g, 0, none⟩))).run Try.prog w = .ok (.agg #[a, b]) w := by
  simp only [Instr.loadAt, Instr.sureAddr, Sem.run_bind, Sem.run_pure, Result.andThen_ok, load_C h]
/-- k bytes of s over zeros -/
def part (s : List UInt8) (k : Nat) : List UInt8 := s.take k ++ List.replicate (32 - k) 0
theorem part_len (s : List UInt8) (k : Nat) (hs : s.length ≤ 32) (hk : k ≤ s.length) : (part s k).length = 32 := by
  unfold part
  rw [List.length_append, List.length_take, List.length_replicate]
  omega
theorem part_set (s : List UInt8) (k : Nat) (hs : s.length ≤ 32) (h : k < s.length) : (hc (part s k)).set k (.int .u8 (s[k].toNat : Int)) = hc (part s (k + 1)) := by
  have e : (part s k).set k s[k] = part s (k + 1) := by
    unfold part
    have e2 : List.replicate (32 - k) (0 : UInt8) = 0 :: List.replicate (32 - (k + 1)) 0 := by
      rw [show 32 - k = (32 - (k + 1)) + 1 by omega, List.replicate_succ]
    have e3 : (s.take k).length = k := by rw [List.length_take]; omega
    rw [List.take_succ_eq_append_getElem h, e2, List.set_append_right _ _ (by omega), e3, Nat.sub_self]
    simp only [List.set_cons_zero, List.append_assoc, List.cons_append, List.nil_append]
  rw [← e]
  unfold hc
  rw [List.map_set]
  rfl
set_option maxHeartbeats 4000000 in
set_option maxRecDepth 100000 in
theorem rhash_calls (c : C) (w : World) (hl : c.b.length ≤ 9223372036854775807) :
    Calls Try.prog 59 #[cV c] w fun r w' => r = .returned (.tuple #[hv (hashC c).1, cV (hashC c).2]) ∧ Below w.heap.size w w' := by
  have HR := Lib.hid (fun w => rraw_calls c 32 w hl (by omega))
  have hrl := raw32_len c
  have hlen2 : (hashC c).1.length = 32 := hash_len c
  have hh : hashC c = ((rawC c 32).1 ++ List.replicate (32 - (rawC c 32).1.length) 0, (rawC c 32).2) := rfl
  rw [hh] at hlen2 ⊢
  generalize rawC c 32 = x at *
  obtain ⟨s, d⟩ := x
  clear hh
  unfold cV cC at *
  go_enter Try.func59, Try.ntmps59
  go_wp2_with fail
  refine (HR.out _).mono ?_
  rintro r w1 ⟨rfl, hb1⟩
  have HB1 := Lib.hid hb1
  clear hb1
  go_wp2_with fail
  generalize hW : World.alloc (World.alloc w1 _) _ = W1
  have q0 : Hid (W1.heap[w1.heap.size]? = some (.cells #[.string (ba d.b), .int .i64 d.e] 35 (0, 0)) ∧ W1.heap[w1.heap.size + 1]? = some (.cells (hc (part s 0)).toArray 24 (0, 0)) ∧
      W1.heap[w.heap.size + 1]? = some (.cells (hc (List.replicate 32 0)).toArray 24 (0, 0)) ∧ W1.heap[w.heap.size + 2]? = some (.cells zC 35 (0, 0)) ∧ Below w.heap.size w W1 ∧ w.heap.size + 3 ≤ w1.heap.size) := by
    have hb1 := HB1.out
    have hs1 : w.heap.size + 3 ≤ w1.heap.size := by have := hb1.size; simp at this; omega
    rw [← hW]
    refine Lib.hid ⟨heap_new1 _ _ _, heap_new2 _ _ _, ?_, ?_, ?_, hs1⟩
    · refine (Below.heap_alloc _ _ _ (by simp <;> omega)).trans ((Below.heap_alloc _ _ _ (by omega)).trans ((hb1.block _ (by simp <;> omega)).trans ?_))
      exact (Below.heap_alloc _ _ _ (by simp)).trans (heap_new2 _ _ _)
    · refine (Below.heap_alloc _ _ _ (by simp <;> omega)).trans ((Below.heap_alloc _ _ _ (by omega)).trans ((hb1.block _ (by simp)).trans ?_))
      have h3 := heap_new ((w.alloc (.cells #[.string (ba c.b), .int .i64 c.e] 35)).alloc (.cells (hc (List.replicate 32 0)).toArray 24)) (.cells zC 35)
      rw [World.size_alloc, World.size_alloc] at h3
      exact h3
    · exact ((below_up ((below2 _ _ _).alloc (by simp <;> omega) _) hb1).alloc (by omega) _).alloc (by simp <;> omega) _
  clear hW HB1
  have hlen : (ba s).size = s.length := rfl
  have Hlen := Lib.hid hlen
  have HL2 := Lib.hid hlen2
  clear hlen hlen2
  go_loopw [7] (fun s7 wr => ∃ k : Nat, k ≤ s.length ∧ s7 = .int .i64 k ∧ Hid (wr.heap[w1.heap.size]? = some (.cells #[.string (ba d.b), .int .i64 d.e] 35 (0, 0)) ∧ wr.heap[w1.heap.size + 1]? = some (.cells (hc (part s k)).toArray 24 (0, 0)) ∧
      wr.heap[w.heap.size + 1]? = some (.cells (hc (List.replicate 32 0)).toArray 24 (0, 0)) ∧ wr.heap[w.heap.size + 2]? = some (.cells zC 35 (0, 0)) ∧ Below w.heap.size w wr ∧ w.heap.size + 3 ≤ w1.heap.size)) (fun s7 _ => s.length - (intOf s7).toNat)
  case atStart => exact ⟨0, by omega, rfl, q0⟩
  case round =>
    obtain ⟨k, hk, rfl, hq⟩ := hrel
    by_cases hkl : k < s.length
    · obtain ⟨h1, h2, h3, h4, h5, h6⟩ := hq.out
      have hsz : (ba s).size = s.length := Hlen.out
      have hks : k < (ba s).size := by rw [hsz]; exact hkl
      have hpl := part_len s k hrl hk
      have hset := part_set s k hrl hkl
      obtain ⟨z, hz⟩ : ∃ z, (hc (part s k))[k]? = some z := ⟨_, List.getElem?_eq_getElem (by rw [hc_len]; omega)⟩
      have d0 : wr.cell? ⟨w1.heap.size + 1, k, none⟩ = some z := by rw [cell_of_row _ _ _ _ _ _ h2, List.getElem?_toArray]; exact hz
      have f0 : wr.frozen? ⟨w1.heap.size + 1, k, none⟩ = false := by simp [World.frozen?, h2]
      have hnew := Lib.hid (show (wr.setCell ⟨w1.heap.size + 1, k, none⟩ (.int .u8 (s[k].toNat : Int))).heap[w1.heap.size]? = _ ∧ (wr.setCell ⟨w1.heap.size + 1, k, none⟩ (.int .u8 (s[k].toNat : Int))).heap[w1.heap.size + 1]? = some (.cells (hc (part s (k + 1))).toArray 24 (0, 0)) ∧
        (wr.setCell ⟨w1.heap.size + 1, k, none⟩ (.int .u8 (s[k].toNat : Int))).heap[w.heap.size + 1]? = _ ∧ (wr.setCell ⟨w1.heap.size + 1, k, none⟩ (.int .u8 (s[k].toNat : Int))).heap[w.heap.size + 2]? = _ ∧ Below w.heap.size w (wr.setCell ⟨w1.heap.size + 1, k, none⟩ (.int .u8 (s[k].toNat : Int))) ∧ w.heap.size + 3 ≤ w1.heap.size from
        ⟨(Below.heap_setCell _ _ _ _ (by simp)).trans h1, by rw [← hset]; simp [World.setCell, Array.getElem?_modify, h2]; rfl, (Below.heap_setCell _ _ _ _ (by simp <;> omega)).trans h3, (Below.heap_setCell _ _ _ _ (by simp <;> omega)).trans h4, h5.setCell (p := ⟨w1.heap.size + 1, k, none⟩) (by simp <;> omega) _, h6⟩)
      have hx : (ba s)[k] = s[k] := rfl
      have i1 : ¬ (k : Int) < 0 := by omega
      have hk32 : k < 32 := by omega
      clear h1 h2 h3 h4 h5 h6 hset hpl hz hq hsz
      go_wp2_with fail
      go_roundw
      case rel => exact ⟨k + 1, by omega, by go_num, hnew⟩
      case measure => simp [intOf] <;> omega
    · obtain rfl : k = s.length := by omega
      have hp : part s s.length = s ++ List.replicate (32 - s.length) 0 := by unfold part; rw [List.take_of_length_le (Nat.le_refl _)]
      rw [hp] at hq
      clear hp
      have hx1 : (s ++ List.replicate (32 - s.length) 0).length = 32 := HL2.out
      generalize hX : s ++ List.replicate (32 - s.length) 0 = x at *
      have HX := Lib.hid hX
      clear hX
      have i3 := IHa hx1
      have Hx1 := Lib.hid hx1
      clear hx1
      have hlen := Hlen.out
      have hq2 := hq
      obtain ⟨h1, h2, h3, h4, h5, h6⟩ := hq.out
      have K2 : wr.drew.heap = wr.heap := rfl
      have LA := Lib.hid (run_loadAt_row (P := Try.prog) wr.drew (w1.heap.size + 1) 24 24 _ _ _ h2 UH rfl i3)
      have SA := Lib.hid (run_storeAt_row (P := Try.prog) (w := wr.drew) (ty := 24) (cells := (hc x).toArray) h3 i3 (by simp [hc_len, Hx1.out]) (hc_one _))
      have LC := Lib.hid (loadAt_C (w := wr.drew) h1)
      have h1' : (wr.drew.setRow (w.heap.size + 1) (hc x).toArray).heap[w1.heap.size]? = some (.cells #[.string (ba d.b), .int .i64 d.e] 35 (0, 0)) := (setRow_other _ _ _ _ (by omega)).trans h1
      have LC2 := Lib.hid (loadAt_C h1')
      have h4' : (wr.drew.setRow (w.heap.size + 1) (hc x).toArray).heap[w.heap.size + 2]? = some (.cells zC 35 (0, 0)) := (setRow_other _ _ _ _ (by omega)).trans h4
      have SC := Lib.hid (run_storeAt_row (P := Try.prog) (ty := 35) (cells := #[.string (ba d.b), .int .i64 d.e]) h4' (IC' _ _) rfl (oneC _ _))
      have RA := Lib.hid (run_loadVar_row (P := Try.prog) ((wr.drew.setRow (w.heap.size + 1) (hc x).toArray).setRow (w.heap.size + 2) #[.string (ba d.b), .int .i64 d.e]) (w.heap.size + 1) 24 24 _ _ _ ((setRow_other _ _ _ _ (by omega)).trans (setRow_heap _ _ _ _ _ _ h3)) UH rfl i3)
      have RC := Lib.hid (load_C (setRow_heap (wr.drew.setRow (w.heap.size + 1) (hc x).toArray) (w.heap.size + 2) zC #[.string (ba d.b), .int .i64 d.e] _ _ h4'))
      have RB := Lib.hid (setRow_below (g := w.heap.size + 2) (cs := #[.string (ba d.b), .int .i64 d.e]) (setRow_below (g := w.heap.size + 1) (cs := (hc x).toArray) h5.drew (by omega)) (by omega))
      clear K2 h1 h2 h3 h4 h5 h6 hq h1' h4'
      go_wp2_with fail
      refine wp_region_any (by kernel_rfl) ?_
      change wpAny _ _ _ _ _ _ _ (World.drew _)
      refine wpAny_ready (rs := [0, 1]) (by kernel_rfl) (by simp) ?_
      refine AllReady.cons rfl (fun K hK => ?_) (AllReady.cons rfl (fun K hK => ?_) AllReady.nil)
      · refine step_load rfl _ _ rfl _ rfl _ LA.out ?_
        refine hK _ _ ?_
        clear hK K
        refine wpAny_ready (rs := [1, 2]) (by kernel_rfl) (by simp) ?_
        refine AllReady.cons rfl (fun K hK => ?_) (AllReady.cons rfl (fun K hK => ?_) AllReady.nil)
        · refine step_load rfl _ _ rfl _ rfl _ LC.out ?_
          refine hK _ _ ?_
          clear hK K
          refine wpAny_ready (rs := [2]) (by kernel_rfl) (by simp) ?_
          refine AllReady.cons rfl (fun K hK => ?_) AllReady.nil
          refine step_store rfl _ _ _ rfl _ rfl _ rfl _ SA.out ?_
          refine hK _ _ ?_
          clear hK K
          refine wpAny_ready (rs := [3]) (by kernel_rfl) (by simp) ?_
          refine AllReady.cons rfl (fun K hK => ?_) AllReady.nil
          refine step_store rfl _ _ _ rfl _ rfl _ rfl _ SC.out ?_
          refine hK _ _ ?_
          clear hK K
          refine wpAny_done (by kernel_rfl) ?_ _
          go_wp2_with fail
          exact bodyPost_ret (results_cell_cell 2 3 24 35 ⟨w.heap.size + 1, 0, none⟩ ⟨w.heap.size + 2, 0, none⟩ _ _ rfl rfl rfl RA.out RC.out) rfl ⟨by rw [HX.out]; rfl, RB.out⟩
        · refine step_store rfl _ _ _ rfl _ rfl _ rfl _ SA.out ?_
          refine hK _ _ ?_
          clear hK K
          refine wpAny_ready (rs := [1]) (by kernel_rfl) (by simp) ?_
          refine AllReady.cons rfl (fun K hK => ?_) AllReady.nil
          refine step_load rfl _ _ rfl _ rfl _ LC2.out ?_
          refine hK _ _ ?_
          clear hK K
          refine wpAny_ready (rs := [3]) (by kernel_rfl) (by simp) ?_
          refine AllReady.cons rfl (fun K hK => ?_) AllReady.nil
          refine step_store rfl _ _ _ rfl _ rfl _ rfl _ SC.out ?_
          refine hK _ _ ?_
          clear hK K
          refine wpAny_done (by kernel_rfl) ?_ _
          go_wp2_with fail
          exact bodyPost_ret (results_cell_cell 2 3 24 35 ⟨w.heap.size + 1, 0, none⟩ ⟨w.heap.size + 2, 0, none⟩ _ _ rfl rfl rfl RA.out RC.out) rfl ⟨by rw [HX.out]; rfl, RB.out⟩
      · refine step_load rfl _ _ rfl _ rfl _ LC.out ?_
        refine hK _ _ ?_
        clear hK K
        refine wpAny_ready (rs := [0]) (by kernel_rfl) (by simp) ?_
        refine AllReady.cons rfl (fun K hK => ?_) AllReady.nil
        refine step_load rfl _ _ rfl _ rfl _ LA.out ?_
        refine hK _ _ ?_
        clear hK K
        refine wpAny_ready (rs := [2]) (by kernel_rfl) (by simp) ?_
        refine AllReady.cons rfl (fun K hK => ?_) AllReady.nil
        refine step_store rfl _ _ _ rfl _ rfl _ rfl _ SA.out ?_
        refine hK _ _ ?_
        clear hK K
        refine wpAny_ready (rs := [3]) (by kernel_rfl) (by simp) ?_
        refine AllReady.cons rfl (fun K hK => ?_) AllReady.nil
        refine step_store rfl _ _ _ rfl _ rfl _ rfl _ SC.out ?_
        refine hK _ _ ?_
        clear hK K
        refine wpAny_done (by kernel_rfl) ?_ _
        go_wp2_with fail
        exact bodyPost_ret (results_cell_cell 2 3 24 35 ⟨w.heap.size + 1, 0, none⟩ ⟨w.heap.size + 2, 0, none⟩ _ _ rfl rfl rfl RA.out RC.out) rfl ⟨by rw [HX.out]; rfl, RB.out⟩
end Go.Proofs.Ytgdlhcopgfgmaaa.Cur
