/- The walk of chapter 43's awake. -/
import Derived.Test.YtihdeanfcbiflaaDoorWhT
import Derived.Test.YtihdeanfcbiflaaDoorWhV
namespace Go.Proofs.YtihdeanfcbiflaaDoor.Wh
open Go.RowKit Go.Proofs.YtihdeanfcbiflaaDoor.Mk Go.Proofs.YtihdeanfcbiflaaDoor.Ul Go.Proofs.YtihdeanfcbiflaaDoor.Wi Go.Proofs.YtihdeanfcbiflaaDoor.Lg
theorem dec_small {X : Nat} (h : X < 10) : decL X = [UInt8.ofNat (48 + X)] := by
  unfold decL
  rw [d10, dif_pos h]
  rfl
theorem itoa_small {X : Nat} (h : X < 10) : itoaL (X : Int) = [UInt8.ofNat (48 + X)] := by
  unfold itoaL
  rw [if_neg (by omega), Int.toNat_natCast, dec_small h]
set_option maxHeartbeats 4000000 in
set_option maxRecDepth 100000 in
theorem it1 (w : World) : It w 1 := by
  intro wx _
  have he : ba (itoaL 1) = ⟨#[48 + 1]⟩ := by rw [show (1 : Int) = ((1 : Nat) : Int) from rfl, itoa_small (by decide)]; rfl
  rw [he]
  go_enter Tryd.func24, Tryd.ntmps24
  go_wp2
  go_ret
  exact ⟨rfl, Below.refl _ _⟩
set_option maxHeartbeats 4000000 in
set_option maxRecDepth 100000 in
theorem it2 (w : World) : It w 2 := by
  intro wx _
  have he : ba (itoaL 2) = ⟨#[48 + 2]⟩ := by rw [show (2 : Int) = ((2 : Nat) : Int) from rfl, itoa_small (by decide)]; rfl
  rw [he]
  go_enter Tryd.func24, Tryd.ntmps24
  go_wp2
  go_ret
  exact ⟨rfl, Below.refl _ _⟩
def r0 : Ro := ⟨1, ⟨2, true, 4⟩, ⟨1, false, 2⟩⟩
theorem built_h (w : World) (c : Int) (m : Bool) (v : Nat) : (Instr.build 28 #[(0, .int .i64 c), (1, .bool m), (2, UV 5 v)]).run Tryd.prog w = .ok (.agg (hfC ⟨c, m, v⟩).toArray) w := by kernel_rfl
theorem built_h2 (w : World) (c : Int) (v : Nat) : (Instr.build 28 #[(0, .int .i64 c), (2, UV 5 v)]).run Tryd.prog w = .ok (.agg (hfC ⟨c, false, v⟩).toArray) w := by kernel_rfl
theorem built_r (w : World) (l : Int) (a b : Hf) : (Instr.build 30 #[(0, .int .i64 l), (1, .agg (hfC a).toArray), (2, .agg (hfC b).toArray)]).run Tryd.prog w = .ok (.agg (roC ⟨l, a, b⟩).toArray) w := by kernel_rfl
theorem text0 : textL [r0] = [49, 32, 50, 32, 52, 32, 49, 32, 45, 10] := by
  have h1 : itoaL 1 = [49] := (itoa_small (X := 1) (by decide)).trans rfl
  have h2 : itoaL 2 = [50] := (itoa_small (X := 2) (by decide)).trans rfl
  have h4 : decL 4 = [52] := (dec_small (X := 4) (by decide)).trans rfl
  unfold textL textL lineL wordsL r0
  simp only [h1, h2, h4]
  rfl
theorem ver0 : verV [r0] = 1 := by decide +kernel
theorem r0_ok : r0.Ok := ⟨⟨Nat.lt_of_lt_of_le (by decide : 4 < 5) (by decide), by decide, by decide⟩, ⟨Nat.lt_of_lt_of_le (by decide : 2 < 5) (by decide), by decide, by decide⟩, by decide, by decide⟩
theorem bld_h {o : Oper} {a : Act} {w : World} {x y z : Operand} {c : Int} {m : Bool} {v : Nat} (ho : o.op = .build 28 #[(0, x), (1, y), (2, z)]) (hx : a.eval x = .int .i64 c) (hy : a.eval y = .bool m) (hz : a.eval z = UV 5 v) : (execOp a.eval o).run Tryd.prog w = .ok (.value (.agg (hfC ⟨c, m, v⟩).toArray)) w := by
  have h := built_h w c m v
  unfold execOp
  simp only [ho, List.map_toArray, List.map_cons, List.map_nil, hx, hy, hz, Sem.run_bind, h, Result.andThen_ok, Sem.run_pure]
theorem bld_h2 {o : Oper} {a : Act} {w : World} {x z : Operand} {c : Int} {v : Nat} (ho : o.op = .build 28 #[(0, x), (2, z)]) (hx : a.eval x = .int .i64 c) (hz : a.eval z = UV 5 v) : (execOp a.eval o).run Tryd.prog w = .ok (.value (.agg (hfC ⟨c, false, v⟩).toArray)) w := by
  have h := built_h2 w c v
  unfold execOp
  simp only [ho, List.map_toArray, List.map_cons, List.map_nil, hx, hz, Sem.run_bind, h, Result.andThen_ok, Sem.run_pure]
theorem bld_r {o : Oper} {a : Act} {w : World} {x y z : Operand} {l : Int} {p q : Hf} (ho : o.op = .build 30 #[(0, x), (1, y), (2, z)]) (hx : a.eval x = .int .i64 l) (hy : a.eval y = .agg (hfC p).toArray) (hz : a.eval z = .agg (hfC q).toArray) : (execOp a.eval o).run Tryd.prog w = .ok (.value (.agg (roC ⟨l, p, q⟩).toArray)) w := by
  have h := built_r w l p q
  unfold execOp
  simp only [ho, List.map_toArray, List.map_cons, List.map_nil, hx, hy, hz, Sem.run_bind, h, Result.andThen_ok, Sem.run_pure]
theorem URs : Tryd.prog.underlying 22 = some (.slice 30) := by kernel_rfl
theorem IRz : (Tryd.prog.info? 30).map (fun i => (i.zero, i.size, i.bytes)) = some (some (.agg (roC ⟨0, ⟨0, false, 0⟩, ⟨0, false, 0⟩⟩).toArray), 15, 120) := by kernel_rfl
theorem sl1 {w : World} {g : Nat} {r : Ro} (h : w.heap[g]? = some (rB r)) : SL roC 15 w (.slice (some ⟨g, 0, none⟩) 1 1) [r] :=
  SL.of_block (t := 30) (l := [r]) (by rw [h]; unfold rB; simp) (fun x _ => roC_len x) (by simp) 1 rfl
set_option maxHeartbeats 8000000 in
set_option maxRecDepth 100000 in
theorem awake_calls (w : World) : Calls Tryd.prog 6 #[] w fun e w' => e = .returned (.bool true) ∧ Below w.heap.size w w' := by
  have hq : ((ba (textL [r0])).toList == [49, 32, 50, 32, 52, 32, 49, 32, 45, 10]) = true := by rw [text0]; kernel_rfl
  have TX := Lib.hid (fun v wx (h : SL roC 15 wx v [r0]) => text_calls v [r0] wx h (fun r hr => by rw [List.mem_singleton.1 hr]; exact r0_ok) (by decide) (fun r hr => by rw [List.mem_singleton.1 hr]; exact ⟨it1 wx, it2 wx, it1 wx⟩))
  have VD := Lib.hid (fun v wx (h : SL roC 15 wx v [r0]) => verdict_calls v [r0] wx h (fun r hr => by rw [List.mem_singleton.1 hr]; exact r0_ok))
  rw [ver0] at VD
  have hsz : (roC r0).toArray.size = 15 := by rw [List.size_toArray, roC_len]
  have hr0 : roC r0 = roC ⟨1, ⟨2, true, 4⟩, ⟨1, false, 2⟩⟩ := rfl
  generalize ba (textL [r0]) = s0 at *
  go_enter Tryd.func6, Tryd.ntmps6
  go_wp2_with fail
  refine (lof_calls 4 w (by decide)).mono ?_
  rintro e w1 ⟨rfl, hb1⟩
  have B1 := Lib.hid hb1
  clear hb1
  go_wp2_with (refine wpList_value (by rfl) _ (bld_h (c := 2) (m := true) (v := 4) (by rfl) (by rfl) (by rfl) (by rfl)) ?_)
  refine (lof_calls 2 w1 (by decide)).mono ?_
  rintro e w2 ⟨rfl, hb2⟩
  have B2 := Lib.hid (below_up B1.out hb2)
  clear hb2 B1
  have hb3 : Below w2.heap.size w2 (w2.alloc (rB r0)) := (Below.refl _ _).alloc (Nat.le_refl _) _
  have hg3 := heap_new w2 (rB r0)
  have B3 := Lib.hid (below_up B2.out hb3)
  have K3 := Lib.hid hg3
  have L3 := Lib.hid (ldR (rg_rb hg3))
  clear hb3 hg3 B2
  unfold rB at B3 L3 K3
  go_upto_region 2 with (first | (refine wpList_value (by rfl) _ (bld_h2 (c := 1) (v := 2) (by rfl) (by rfl) (by rfl)) ?_) | (refine wpList_value (by rfl) _ (bld_r (l := 1) (p := ⟨2, true, 4⟩) (q := ⟨1, false, 2⟩) (by rfl) (by rfl) (by rfl) (by rfl)) ?_) | (refine wpList_store_last rfl 30 _ _ rfl _ (roC r0).toArray rfl rfl (IRo r0) (by rw [hsz]; rfl) (one_ro r0) ?_))
  obtain ⟨g, hg⟩ : ∃ g, g = w2.heap.size := ⟨_, rfl⟩
  rw [← hg] at K3 L3
  rw [← hg]
  clear hg
  generalize World.alloc w2 _ = W3 at *
  have hb4 : Below W3.heap.size W3 (W3.alloc (rB r0)) := (Below.refl _ _).alloc (Nat.le_refl _) _
  have P4 := Lib.hid (TX.out _ _ (sl1 (heap_new W3 (rB r0))))
  have B4 := Lib.hid (below_up B3.out hb4)
  have K4 := Lib.hid ((hb4.block _ (Array.getElem?_eq_some_iff.1 K3.out).1).trans K3.out)
  clear hb4 TX B3 K3
  unfold rB at P4 B4 K4
  go_wp2_with (first | (refine wpList_loadg (by rfl) 30 (.tmp 1) (by rfl) _ (by rfl) _ L3.out ?_) | (refine wpList_buildOne (by rfl) 22 30 15 (.tmp 7) (by rfl) (roC r0).toArray _ _ (by rfl) hsz IRz URs (by decide) (by decide) ?_))
  refine P4.out.mono ?_
  rintro e w5 ⟨rfl, hb5⟩
  have K5 := Lib.hid (show w5.heap[g]? = some (rB r0) from (hb5.block _ (Array.getElem?_eq_some_iff.1 K4.out).1).trans K4.out)
  have B5 := Lib.hid (below_up B4.out hb5)
  have L5 := Lib.hid (ldR (rg_rb K5.out))
  have hb6 : Below w5.heap.size w5 (w5.alloc (rB r0)) := (Below.refl _ _).alloc (Nat.le_refl _) _
  have P6 := Lib.hid (VD.out _ _ (sl1 (heap_new w5 (rB r0))))
  have B6 := Lib.hid (below_up B5.out hb6)
  clear hb5 hb6 P4 B4 K4 L3 VD B5
  unfold rB at P6 B6
  go_wp2_with (first | (refine wpList_loadg (by rfl) 30 (.tmp 1) (by rfl) _ (by rfl) _ L5.out ?_) | (refine wpList_buildOne (by rfl) 22 30 15 (.tmp 12) (by rfl) (roC r0).toArray _ _ (by rfl) hsz IRz URs (by decide) (by decide) ?_))
  refine P6.out.mono ?_
  rintro e w7 ⟨rfl, hb7⟩
  have B7 := Lib.hid (below_up B6.out hb7)
  clear hb7
  go_wp2_with fail
  go_ret
  exact ⟨rfl, B7.out⟩
end Go.Proofs.YtihdeanfcbiflaaDoor.Wh
