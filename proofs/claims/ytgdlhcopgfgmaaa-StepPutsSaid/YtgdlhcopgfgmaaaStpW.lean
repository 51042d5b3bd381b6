/- The walk of chapter 29's awake. -/
import Derived.Test.YtgdlhcopgfgmaaaStpS
namespace Go.Proofs.Ytgdlhcopgfgmaaa.Stp
open Go.RowKit Go.Proofs.Ytgdlhcopgfgmaaa.Mk Go.Proofs.Ytgdlhcopgfgmaaa.Op Go.Proofs.Ytgdlhcopgfgmaaa.Hd Go.Proofs.Ytgdlhcopgfgmaaa.St
open Go.Proofs.Ytgdlhcopgfgmaaa.Shape (depthI sidesI)
def opA : Opn := ⟨0, 2, [zH]⟩
theorem op0_ok : OOk op0 := ⟨by decide, by decide, by simp [op0]⟩
theorem opA_ok : OOk opA := ⟨by decide, by decide, by simp [opA, zH_len]⟩
theorem depth2 : depthI 2 0 = 1 := by
  have : sidesI 2 0 = [false] := by
    rw [Shape.sidesI_left 2 0 (by omega) (by omega) (by decide), Shape.sidesI_one _ _ (by decide)]; rfl
  unfold depthI
  rw [if_pos (by decide), this]
  rfl
theorem openA : (openB opA).2 = 0 ∧ (openB opA).1.length = 34 := by
  have hn : ¬ noneO opA = true := fun h => absurd ((noneO_iff opA).1 h).2.1 (by decide)
  have hm : mayI opA = 0 := by
    unfold mayI
    rw [if_neg (by decide), if_neg (by rw [show opA.c = 2 from rfl, show opA.i = 0 from rfl, depth2]; decide)]
  unfold openB
  rw [if_neg hn, if_neg (by rw [hm]; decide)]
  refine ⟨rfl, ?_⟩
  rw [show opA.c.toNat = 2 from rfl, show opA.i.toNat = 0 from rfl, Num.putL_one 2 (by decide), Num.putL_one 0 (by decide)]
  simp [opA, zH_len]
theorem step0 : (stepB hd0 op0).2 = 0 ∧ (stepB hd0 op0).1.length = 77 := by
  have hn : noneO op0 = true := (noneO_iff op0).2 ⟨rfl, rfl, rfl⟩
  have ho : openB op0 = (Num.putL 0, 0) := by unfold openB; rw [if_pos hn]
  unfold stepB
  rw [ho, if_neg (by decide)]
  refine ⟨rfl, ?_⟩
  rw [List.length_append, hd0.b_len hd0_ok, Num.putL_one 0 (by decide)]
  rfl
def nilS : Value := .slice none 0 0
theorem build_St {o : Oper} {a : Act} {w : World} (ho : o.op = .build 66 #[]) : (execOp a.eval o).run Try.prog w = .ok (.value (.agg (sc hd0 op0 nilS).toArray)) w := by
  unfold execOp
  simp only [ho]
  kernel_rfl
theorem build_Ha {o : Oper} {a : Act} {w : World} (ho : o.op = .build 24 #[]) : (execOp a.eval o).run Try.prog w = .ok (.value (.agg (hc zH).toArray)) w := by
  unfold execOp
  simp only [ho]
  kernel_rfl
theorem sv0 (w : World) : SV w (.agg (sc hd0 op0 nilS).toArray) hd0 op0 := ⟨_, rfl, SL.nil _ _ _⟩
set_option maxHeartbeats 4000000 in
set_option maxRecDepth 100000 in
theorem awake_calls (w : World) : Calls Try.prog 32 #[] w fun e w' => e = .returned (.bool true) ∧ Below w.heap.size w w' := by
  have H0 := Lib.hid (step_calls hd0 op0 _ w (sv0 w) hd0_ok op0_ok)
  have HA := Lib.hid (fun v w h => opening_calls opA v w h opA_ok)
  rw [step0.1] at H0
  rw [openA.1] at HA
  have h1 : (ba (stepB hd0 op0).1).size = 77 := by rw [ba_size, step0.2]
  have h2 : (ba (openB opA).1).size = 34 := by rw [ba_size, openA.2]
  generalize ba (stepB hd0 op0).1 = s1 at *
  generalize ba (openB opA).1 = s2 at *
  have hi : (Try.prog.info? 24).map (fun i => (i.zero, i.size, i.bytes)) = some (some (.agg (hc zH).toArray), 32, 32) := by kernel_rfl
  have us : Try.prog.underlying 62 = some (.slice 24) := by kernel_rfl
  have Hi := Lib.hid hi
  have Us := Lib.hid us
  clear hi us
  go_enter Try.func32, Try.ntmps32
  go_wp2_with (refine wpList_value (by rfl) (.agg (sc hd0 op0 nilS).toArray) (build_St (by rfl)) ?_)
  refine H0.out.mono ?_
  rintro r w1 ⟨rfl, hb1⟩
  have B1 := Lib.hid hb1
  clear hb1
  go_wp2_with (first | (refine wpList_value (by rfl) (.agg (hc zH).toArray) (build_Ha (by rfl)) ?_) | (refine wpList_buildOne rfl 62 24 32 _ rfl (hc zH).toArray _ 32 rfl (by simp [hc_len, zH_len]) Hi.out Us.out (by decide) (by decide) ?_))
  have hs : SL hc 32 (w1.alloc (.cells (hc zH).toArray 24)) (.slice (some ⟨w1.heap.size, 0, none⟩) 1 1) [zH] := by
    refine ⟨fun x hx => ?_, by decide, some ⟨w1.heap.size, 0, none⟩, 1, rfl, by decide, by decide, fun _ => ⟨w1.heap.size, 0, rfl, ?_⟩⟩
    · simp only [List.mem_singleton] at hx
      rw [hx, hc_len, zH_len]
    · intro k x hk
      cases k with
      | zero =>
        obtain rfl : zH = x := by simpa using hk
        intro j u hj
        exact range_row (heap_alloc_last w1 _) j u hj
      | succ k => simp at hk
  refine (HA.out _ _ ⟨_, rfl, hs⟩).mono ?_
  rintro r w2 ⟨rfl, hb2⟩
  have hfin := Lib.hid (B1.out.trans (((Below.refl w1.heap.size w1).alloc (Nat.le_refl _) _ |>.trans (hb2.mono (by simp))).mono B1.out.size))
  clear hb2 hs
  go_wp2_with fail
  go_ret
  exact ⟨rfl, hfin.out⟩
end Go.Proofs.Ytgdlhcopgfgmaaa.Stp
