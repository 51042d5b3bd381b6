/- The walk of chapter 43's law WhyTells. -/
import Derived.Test.YtihdeanfcbiflaaDoorWhR
import Derived.Test.YtihdeanfcbiflaaDoorWhA
namespace Go.Proofs.YtihdeanfcbiflaaDoor.Wh
open Go.RowKit Go.Proofs.YtihdeanfcbiflaaDoor.Mk Go.Proofs.YtihdeanfcbiflaaDoor.Ul Go.Proofs.YtihdeanfcbiflaaDoor.Wi Go.Proofs.YtihdeanfcbiflaaDoor.Lg
set_option maxHeartbeats 8000000 in
set_option maxRecDepth 100000 in
theorem lawTells_calls (v : Value) (rs : List Ro) (w : World) (h : SL roC 15 w v rs) (ok : ∀ r ∈ rs, r.Ok) (hi : ∀ r ∈ rs, It w r.l ∧ It w r.a.c ∧ It w r.b.c) :
    Calls Tryd.prog 3 #[v] w fun e w' => e = .returned (.bool true) ∧ Below w.heap.size w w' := by
  have HA := Lib.hid (fun wx => awake_calls wx)
  have HX := Lib.hid (fun wx (hx : Below w.heap.size w wx) => h.below hx)
  have TX := Lib.hid (fun wx (hx : Below w.heap.size w wx) (hn : rs.length ≤ 1000000) => text_calls v rs wx (h.below hx) ok hn (fun r hr => ⟨(hi r hr).1.below hx, (hi r hr).2.1.below hx, (hi r hr).2.2.below hx⟩))
  obtain ⟨_, hbd, A, c, rfl, hlc, hcm, _⟩ := h
  have OK := Lib.hid ok
  clear ok hi
  by_cases hm : 40 < rs.length
  · have t1 : decide ((40 : Int) < (rs.length : Int)) = true := decide_eq_true (by omega)
    clear HX TX
    go_enter Tryd.func3, Tryd.ntmps3
    go_wp2_with fail
    refine (HA.out _).mono ?_
    rintro e w1 ⟨rfl, hb1⟩
    have B1 := Lib.hid hb1
    clear hb1
    go_wp2_with fail
    go_ret
    exact ⟨rfl, B1.out⟩
  have t1 : decide ((40 : Int) < (rs.length : Int)) = false := decide_eq_false (by omega)
  go_enter Tryd.func3, Tryd.ntmps3
  go_wp2_with fail
  have B0 := Lib.hid (Below.refl w.heap.size w)
  go_loopw [3, 4] (fun s3 s4 wr => ∃ (i : Nat), s4 = .int .i64 (i : Int) ∧ i ≤ rs.length ∧ s3 = .string (ba (textL (rs.take i))) ∧ Hid (Below w.heap.size w wr)) (fun _ s4 _ => rs.length - (intOf s4).toNat)
  case atStart => exact ⟨0, rfl, by omega, rfl, B0⟩
  case round =>
    obtain ⟨i, rfl, hil, rfl, I⟩ := hrel
    clear B0
    by_cases hlt : i < rs.length
    · obtain ⟨_, _, _, _, he, _, _, hr⟩ := HX.out wr I.out
      cases he
      obtain ⟨b, o, hA, hq⟩ := hr (by omega)
      subst hA
      have hrg := hq i _ (List.getElem?_eq_getElem hlt)
      have i1 : (i : Int) < (rs.length : Int) := by omega
      have LW := Lib.hid (ldR hrg)
      have hok := OK.out rs[i] (List.getElem_mem hlt)
      have HT := Lib.hid (show textL (rs.take (i + 1)) = textL (rs.take i) ++ lineL rs[i] by rw [List.take_succ_eq_append_getElem hlt, textL_app]; simp [textL])
      have hL := text_len (rs.take i) (fun r hr => OK.out r (List.mem_of_mem_take hr))
      rw [List.length_take] at hL
      generalize rs[i] = r at *
      have hl2 : (ba (textL (rs.take i))).size ≤ 10400 := by rw [ba_size]; omega
      have hZ := line_ba r
      have hT2 : ba (textL (rs.take (i + 1))) = ba (textL (rs.take i)) ++ ba (lineL r) := by rw [HT.out, ba_append]
      rw [hZ] at hT2
      generalize ba (textL (rs.take i)) = l at *
      have hba : Below wr.heap.size wr (wr.alloc (rB r)) := (Below.refl _ _).alloc (Nat.le_refl _) _
      have z0 : (ba (itoaL r.l)).size ≤ 20 := by rw [ba_size]; exact itoa_len hok.2.2.1 hok.2.2.2
      have z1 : (ba (wordsL r.a)).size ≤ 118 := by rw [ba_size]; exact words_len hok.1
      have z2 : (ba (wordsL r.b)).size ≤ 118 := by rw [ba_size]; exact words_len hok.2.1
      have B1 := Lib.hid (below_up I.out hba)
      have hg := rg_rb (heap_new wr (rB r))
      have hlt2 : wr.heap.size < (wr.alloc (rB r)).heap.size := by simp
      have L0 := Lib.hid (fun wx (hx : Below (wr.alloc (rB r)).heap.size (wr.alloc (rB r)) wx) => ldi (ro0 (rg_below hg hlt2 hx)))
      have L1 := Lib.hid (fun wx (hx : Below (wr.alloc (rB r)).heap.size (wr.alloc (rB r)) wx) => ldH (ro1 (rg_below hg hlt2 hx)))
      have L2 := Lib.hid (fun wx (hx : Below (wr.alloc (rB r)).heap.size (wr.alloc (rB r)) wx) => ldH (ro2 (rg_below hg hlt2 hx)))
      have P0 := Lib.hid (fun wx (_ : Below (wr.alloc (rB r)).heap.size (wr.alloc (rB r)) wx) => digits_calls r.l wx hok.2.2.1 hok.2.2.2)
      have P1 := Lib.hid (fun wx (_ : Below (wr.alloc (rB r)).heap.size (wr.alloc (rB r)) wx) => rwords_calls r.a hok.1 wx)
      have P2 := Lib.hid (fun wx (_ : Below (wr.alloc (rB r)).heap.size (wr.alloc (rB r)) wx) => rwords_calls r.b hok.2.1 wx)
      have IR := Lib.hid (IRo r)
      have OR := Lib.hid (one_ro r)
      have SR := Lib.hid (show (roC ⟨0, ⟨0, false, 0⟩, ⟨0, false, 0⟩⟩).toArray.size = (roC r).toArray.size by rw [List.size_toArray, List.size_toArray, roC_len, roC_len])
      clear hr hq hrg hok hba I hg hlt2 hL hZ HT TX
      unfold rB at B1 L0 L1 L2 P0 P1 P2
      go_upto_region 8 with (first | (refine wpList_loadg (by rfl) 30 (.tmp 18) (by rfl) _ (by rfl) _ LW.out ?_) | (refine wpList_store_last rfl 30 _ _ rfl _ (roC r).toArray rfl rfl IR.out (by exact SR.out) OR.out ?_))
      generalize World.alloc wr _ = W1 at *
      simp only [Act.put]
      generalize ba (itoaL r.l) = s0 at *
      generalize ba (wordsL r.a) = s1 at *
      generalize ba (wordsL r.b) = s2 at *
      have HT := Lib.hid hT2
      have q0' : s0.size + 1 ≤ 9223372036854775807 := by omega
      have q0'' : s0.size ≤ 9223372036854775806 := by omega
      have q2' : s0.size + 1 + s1.size ≤ 9223372036854775807 := by omega
      have q3' : s0.size + 1 + s1.size ≤ 9223372036854775806 := by omega
      have q4' : s0.size + 1 + s1.size + 1 + s2.size ≤ 9223372036854775807 := by omega
      have q5' : s0.size + 1 + s1.size + 1 + s2.size ≤ 9223372036854775806 := by omega
      have q6' : l.size + (s0.size + 1 + s1.size + 1 + s2.size + 1) ≤ 9223372036854775807 := by omega
      clear z0 z1 z2 hl2 hT2 IR OR SR LW
      go_wp2_with fail
      refine wp_region_quiet_below (by kernel_rfl) (by kernel_rfl) ?_
      repeat (first | go_big_quiet_skip | ((refine wpQuiet_load rfl 3 _ rfl _ rfl _ (rg_fact L0.out) ?_); simp only [Act.put, List.setIfInBounds_toArray, List.set_cons_zero, List.set_cons_succ]) | ((refine wpQuiet_load rfl 28 _ rfl _ rfl _ (rg_fact L1.out) ?_); simp only [Act.put, List.setIfInBounds_toArray, List.set_cons_zero, List.set_cons_succ]) | ((refine wpQuiet_load rfl 28 _ rfl _ rfl _ (rg_fact L2.out) ?_); simp only [Act.put, List.setIfInBounds_toArray, List.set_cons_zero, List.set_cons_succ]) | ((refine wpQuiet_call (by rfl) 7 _ (fun wx => call_run (by rfl) (by rfl) (enters_of Tryd.func7 (by kernel_rfl) rfl)) _ (rg_of P0.out) ?_); simp only [Act.put, List.setIfInBounds_toArray, List.set_cons_zero, List.set_cons_succ]) | ((refine wpQuiet_call (by rfl) 8 _ (fun wx => call_run (by rfl) (by rfl) (enters_of Tryd.func8 (by kernel_rfl) rfl)) _ (rg_of P1.out) ?_); simp only [Act.put, List.setIfInBounds_toArray, List.set_cons_zero, List.set_cons_succ]) | ((refine wpQuiet_call (by rfl) 8 _ (fun wx => call_run (by rfl) (by rfl) (enters_of Tryd.func8 (by kernel_rfl) rfl)) _ (rg_of P2.out) ?_); simp only [Act.put, List.setIfInBounds_toArray, List.set_cons_zero, List.set_cons_succ]) | go_big_quiet_step (fail) | quiet_step (fail))
      refine wpQuiet_nil ?_
      rintro _ ⟨rp, rfl⟩
      have hb7 := below_regrown W1 rp.d rp.os
      generalize Sort.grow (redrawn W1 rp.d) rp.os = w7 at *
      have B7 := Lib.hid (below_up B1.out hb7)
      clear hb7 L0 L1 L2 P0 P1 P2
      go_wp2_with fail
      go_roundw
      case rel => exact ⟨i + 1, by go_num, by omega, by rw [HT.out], B7⟩
      case measure => simp [intOf] <;> omega
    · obtain rfl : i = rs.length := by omega
      have t2 : decide ((rs.length : Int) < (rs.length : Int)) = false := decide_eq_false (by omega)
      rw [List.take_length]
      have TX := Lib.hid (TX.out wr I.out (by omega))
      generalize ba (textL rs) = s at *
      go_wp2_with fail
      refine TX.out.mono ?_
      rintro e w5 ⟨rfl, hb5⟩
      have B5 := Lib.hid (below_up I.out hb5)
      clear hb5
      go_wp2_with fail
      refine (HA.out _).mono ?_
      rintro e w6 ⟨rfl, hb6⟩
      have B6 := Lib.hid (below_up B5.out hb6)
      clear hb6
      go_wp2_with fail
      go_ret
      exact ⟨rfl, B6.out⟩
end Go.Proofs.YtihdeanfcbiflaaDoor.Wh
