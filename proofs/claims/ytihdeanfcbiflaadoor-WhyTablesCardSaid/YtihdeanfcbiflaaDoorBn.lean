import Derived.Test.YtihdeanfcbiflaaDoorBm
import Derived.Test.YtihdeanfcbiflaaDoorWhR
import Derived.Test.YtihdeanfcbiflaaDoorStep
import Derived.Deep.RegionHeld3
import Derived.Test.YtihdeanfcbiflaaDoorWhA
/- The walks of the law's half. -/
namespace Go.Proofs.YtihdeanfcbiflaaDoor.Wh
open Go.RowKit Go.Proofs.YtihdeanfcbiflaaDoor.Mk Go.Proofs.YtihdeanfcbiflaaDoor.Ul Go.Proofs.YtihdeanfcbiflaaDoor.Wi Go.Proofs.YtihdeanfcbiflaaDoor.Lg Go.Proofs.YtihdeanfcbiflaaDoor.Up Go.Proofs.YtihdeanfcbiflaaDoor.Sc Go.Proofs.YtihdeanfcbiflaaDoor.R5
theorem wp_callT3 {P : Program} {o : Oper} {a : Act} {w : World} {K : Act → World → Prop} {Q : Exit → Act → World → Prop} (f : FuncId) (args : Array Value) (hrun : (execOp a.eval o).run P w = .ok (.enter f args) w) {post : Ending → World → Prop} (hc : Calls P f args w post)
    (h : ∀ e w', post e w' → ∃ v, e = .returned v ∧ K (a.put o.dst v) w') : Oper.wp P o a w K Q := by
  unfold Oper.wp
  rw [hrun, Oper.upon_enter]
  refine hc.mono fun e w' hp => ?_
  obtain ⟨v, rfl, hk⟩ := h e w' hp
  exact hk
theorem wp_valT {P : Program} {o : Oper} {a : Act} {w : World} {K : Act → World → Prop} {Q : Exit → Act → World → Prop} {v : Value} (hr : (execOp a.eval o).run P w = .ok (.value v) w) (h : K (a.put o.dst v) w) : Oper.wp P o a w K Q := by
  unfold Oper.wp
  rw [hr]
  exact h
theorem exec_load {P : Program} {o : Oper} {a : Act} {w : World} {ty : TypeId} {x : Operand} {p : Addr} {v : Value} (ho : o.op = .load ty x) (hx : a.eval x = .pointer (some p)) (hr : (Instr.loadAt ty (.pointer (some p))).run P w = .ok v w) : (execOp a.eval o).run P w = .ok (.value v) w := by
  unfold execOp
  simp only [ho, hx, Sem.run_bind, hr, Result.andThen_ok, Sem.run_pure]
theorem ld_b {w : World} {a : Addr} {b : Bool} (hc : w.cell? a = some (.bool b)) : (Instr.loadAt 4 (.pointer (some a))).run Tryd.prog w = .ok (.bool b) w := by go_simp
structure LH (g : Nat) (h : Hf) (v : Value) (zs : List Int) (w W : World) : Prop where
  lw : LW1 g h w W
  zs : ZS W v zs
theorem LH.keep {g : Nat} {h : Hf} {v : Value} {zs : List Int} {w W W' : World} (k : LH g h v zs w W) (hb : Below W.heap.size W W') : LH g h v zs w W' := ⟨k.lw.keep hb, k.zs.below hb⟩
set_option maxHeartbeats 8000000 in
set_option maxRecDepth 100000 in
theorem lhalf_calls (v : Value) (zs : List Int) (level m : Int) (w : World) (hz : ZS w v zs) :
    Calls Tryd.prog 14 #[.agg (hfC (halfS zs level m)).toArray, v, .int .i64 level, .int .i64 m] w fun e w' => e = .returned (.bool true) ∧ Below w.heap.size w w' := by
  have hbd := hz.len1
  have hv : valS zs level < (2 ^ 64) ^ 5 := valS_lt level hbd
  have hb0 : Below w.heap.size w (w.alloc (hB (halfS zs level m))) := (Below.refl _ _).alloc (Nat.le_refl _) _
  have P0 := Lib.hid (show LW1 w.heap.size (halfS zs level m) w (w.alloc (hB (halfS zs level m))) from ⟨rg_hb (heap_new w _), by simp, hb0⟩)
  have HZ := Lib.hid (fun wx (hx : Below (w.alloc (hB (halfS zs level m))).heap.size (w.alloc (hB (halfS zs level m))) wx) => (hz.below hb0).below hx)
  obtain ⟨A, c, rfl, _, _, _⟩ := hz.cell1
  clear hz hb0
  unfold hB at P0 HZ
  go_enter Tryd.func14, Tryd.ntmps14
  go_upto_region 1 with fail
  obtain ⟨g, hg⟩ : ∃ g, g = w.heap.size := ⟨_, rfl⟩
  rw [← hg] at P0
  rw [← hg]
  clear hg
  generalize World.alloc w _ = W0 at *
  go_wp2_with fail
  have P_X0 : LH g (halfS zs level m) (.slice A zs.length c) zs w (World.drew W0) := ⟨P0.out.keep (Below.refl _ _).drew, HZ.out _ (Below.refl _ _).drew⟩
  clear P0 HZ
  have hc0 : (halfS zs level m).c = ((cnt zs level : Nat) : Int) := rfl
  have hm0 : (halfS zs level m).m = mayS zs level m := rfl
  have hv0 : (halfS zs level m).v = valS zs level := rfl
  have HE := Lib.hid (And.intro hc0 (And.intro hm0 hv0))
  have hdn := Lib.hid (dn_small hv)
  generalize halfS zs level m = h at *
  obtain ⟨hc1, hm1, hv1⟩ := h
  dsimp only at hc0 hm0 hv0
  subst hc0
  subst hm0
  subst hv0
  have HV := Lib.hid hv
  have hself : cmpI (valS zs level) (valS zs level) = 0 := cmpI_eq rfl
  have hself := Lib.hid hself
  clear hv HE
  refine wp_region_any (by kernel_rfl) ?_
  change wpAny _ _ _ _ _ _ _ (World.drew _)
  generalize World.drew W0 = X0 at *
  refine wpAny_take (i := 0) (oi := ⟨some 9, _, _, _, _, _⟩) (v := .pointer (some ⟨g, 0, none⟩)) rfl (by kernel_rfl) (by kernel_rfl) (by kernel_rfl) (fun _ _ _ h => h) (Or.inl ⟨by rfl, by intro wx; go_simp⟩) ?_
  try simp only [Act.put, List.setIfInBounds_toArray, List.set_cons_zero, List.set_cons_succ]
  refine wpAny_take (i := 2) (oi := ⟨some 11, _, _, _, _, _⟩) (v := .slice A zs.length c) rfl (by kernel_rfl) (by kernel_rfl) (by kernel_rfl) (fun _ _ _ h => h) (Or.inl ⟨by rfl, by intro wx; go_simp⟩) ?_
  try simp only [Act.put, List.setIfInBounds_toArray, List.set_cons_zero, List.set_cons_succ]
  refine wpAny_take (i := 3) (oi := ⟨some 12, _, _, _, _, _⟩) (v := .int .i64 level) rfl (by kernel_rfl) (by kernel_rfl) (by kernel_rfl) (fun _ _ _ h => h) (Or.inl ⟨by rfl, by intro wx; go_simp⟩) ?_
  try simp only [Act.put, List.setIfInBounds_toArray, List.set_cons_zero, List.set_cons_succ]
  refine wpAny_ready (rs := [1, 4]) (by kernel_rfl) (by simp) ?_
  refine AllReady.cons rfl (fun K hK => ?_) (AllReady.cons rfl (fun K hK => ?_) AllReady.nil)
  · refine step_load rfl 3 _ rfl _ rfl (.int .i64 ((cnt zs level : Nat) : Int)) (ldi (hf0 P_X0.lw.bx)) ?_
    refine hK (Act.put _ (some 10) _) _ ?_
    try simp only [Act.put, List.setIfInBounds_toArray, List.set_cons_zero, List.set_cons_succ]
    clear hK K
    refine wpAny_ready (rs := [4]) (by kernel_rfl) (by simp) ?_
    refine AllReady.cons rfl (fun K hK => ?_) AllReady.nil
    · rw [if_pos (by kernel_rfl)]
      refine wp_callT3 _ _ (by go_simp) (rcount_calls (.slice A zs.length c) zs level X0 P_X0.zs) ?_
      rintro e V2 ⟨rfl, hw2⟩
      have hb2 : Below X0.heap.size X0 V2 := by rw [hw2]; exact Below.refl _ _
      clear hw2
      refine ⟨_, rfl, ?_⟩
      have P_V2 := P_X0.keep hb2
      try dsimp only
      refine hK (Act.put _ (some 13) _) _ ?_
      try simp only [Act.put, List.setIfInBounds_toArray, List.set_cons_zero, List.set_cons_succ]
      clear hK K
      refine wpAny_take (i := 5) (oi := ⟨some 14, _, _, _, _, _⟩) (v := .bool true) rfl (by kernel_rfl) (by kernel_rfl) (by kernel_rfl) (fun _ _ _ h => h) (Or.inl ⟨by rfl, by intro wx; go_simp⟩) ?_
      try simp only [Act.put, List.setIfInBounds_toArray, List.set_cons_zero, List.set_cons_succ]
      refine wpAny_take (i := 6) (oi := ⟨some 15, _, _, _, _, _⟩) (v := .bool true) rfl (by kernel_rfl) (by kernel_rfl) (by kernel_rfl) (fun _ _ _ h => h) (Or.inl ⟨by rfl, by intro wx; go_simp⟩) ?_
      try simp only [Act.put, List.setIfInBounds_toArray, List.set_cons_zero, List.set_cons_succ]
      refine wpAny_take (i := 7) (oi := ⟨some 16, _, _, _, _, _⟩) (v := .pointer (some ⟨g, 1, none⟩)) rfl (by kernel_rfl) (by kernel_rfl) (by kernel_rfl) (fun _ _ _ h => h) (Or.inl ⟨by kernel_rfl, by intro wx; go_simp⟩) ?_
      try simp only [Act.put, List.setIfInBounds_toArray, List.set_cons_zero, List.set_cons_succ]
      refine wpAny_take (i := 9) (oi := ⟨some 18, _, _, _, _, _⟩) (v := .slice A zs.length c) rfl (by kernel_rfl) (by kernel_rfl) (by kernel_rfl) (fun _ _ _ h => h) (Or.inl ⟨by kernel_rfl, by intro wx; go_simp⟩) ?_
      try simp only [Act.put, List.setIfInBounds_toArray, List.set_cons_zero, List.set_cons_succ]
      refine wpAny_take (i := 10) (oi := ⟨some 19, _, _, _, _, _⟩) (v := .int .i64 level) rfl (by kernel_rfl) (by kernel_rfl) (by kernel_rfl) (fun _ _ _ h => h) (Or.inl ⟨by kernel_rfl, by intro wx; go_simp⟩) ?_
      try simp only [Act.put, List.setIfInBounds_toArray, List.set_cons_zero, List.set_cons_succ]
      refine wpAny_take (i := 11) (oi := ⟨some 20, _, _, _, _, _⟩) (v := .int .i64 m) rfl (by kernel_rfl) (by kernel_rfl) (by kernel_rfl) (fun _ _ _ h => h) (Or.inl ⟨by kernel_rfl, by intro wx; go_simp⟩) ?_
      try simp only [Act.put, List.setIfInBounds_toArray, List.set_cons_zero, List.set_cons_succ]
      refine wpAny_ready (rs := [8, 12]) (by kernel_rfl) (by simp) ?_
      refine AllReady.cons rfl (fun K hK => ?_) (AllReady.cons rfl (fun K hK => ?_) AllReady.nil)
      · rw [if_pos (by kernel_rfl)]
        refine wp_valT (exec_load rfl (by rfl) (ld_b (hf1 P_V2.lw.bx))) ?_
        refine hK (Act.put _ (some 17) _) _ ?_
        try simp only [Act.put, List.setIfInBounds_toArray, List.set_cons_zero, List.set_cons_succ]
        clear hK K
        refine wpAny_ready (rs := [12]) (by kernel_rfl) (by simp) ?_
        refine AllReady.cons rfl (fun K hK => ?_) AllReady.nil
        · rw [if_pos (by kernel_rfl)]
          refine wp_callT3 _ _ (by go_simp) (rmay_calls (.slice A zs.length c) zs level m V2 P_V2.zs) ?_
          rintro e V4 ⟨rfl, hb4⟩
          refine ⟨_, rfl, ?_⟩
          have P_V4 := P_V2.keep hb4
          try dsimp only
          refine hK (Act.put _ (some 21) _) _ ?_
          try simp only [Act.put, List.setIfInBounds_toArray, List.set_cons_zero, List.set_cons_succ]
          clear hK K
          refine wpAny_take (i := 13) (oi := ⟨some 22, _, _, _, _, _⟩) (v := .bool true) rfl (by kernel_rfl) (by kernel_rfl) (by kernel_rfl) (fun _ _ _ h => h) (Or.inl ⟨by kernel_rfl, by intro wx; go_simp⟩) ?_
          try simp only [Act.put, List.setIfInBounds_toArray, List.set_cons_zero, List.set_cons_succ]
          refine wpAny_take (i := 14) (oi := ⟨some 23, _, _, _, _, _⟩) (v := .bool true) rfl (by kernel_rfl) (by kernel_rfl) (by kernel_rfl) (fun _ _ _ h => h) (Or.inl ⟨by kernel_rfl, by intro wx; go_simp⟩) ?_
          try simp only [Act.put, List.setIfInBounds_toArray, List.set_cons_zero, List.set_cons_succ]
          refine wpAny_take (i := 15) (oi := ⟨some 24, _, _, _, _, _⟩) (v := .bool true) rfl (by kernel_rfl) (by kernel_rfl) (by kernel_rfl) (fun _ _ _ h => h) (Or.inl ⟨by kernel_rfl, by intro wx; go_simp⟩) ?_
          try simp only [Act.put, List.setIfInBounds_toArray, List.set_cons_zero, List.set_cons_succ]
          refine wpAny_take (i := 16) (oi := ⟨some 25, _, _, _, _, _⟩) (v := .pointer (some ⟨g, 2, none⟩)) rfl (by kernel_rfl) (by kernel_rfl) (by kernel_rfl) (fun _ _ _ h => h) (Or.inl ⟨by kernel_rfl, by intro wx; go_simp⟩) ?_
          try simp only [Act.put, List.setIfInBounds_toArray, List.set_cons_zero, List.set_cons_succ]
          refine wpAny_take (i := 17) (oi := ⟨some 26, _, _, _, _, _⟩) (v := .slice (some ⟨g, 2, none⟩) 5 5) rfl (by kernel_rfl) (by kernel_rfl) (by kernel_rfl) (fun _ _ _ h => h) (Or.inl ⟨by kernel_rfl, by intro wx; go_simp⟩) ?_
          try simp only [Act.put, List.setIfInBounds_toArray, List.set_cons_zero, List.set_cons_succ]
          refine wpAny_take (i := 19) (oi := ⟨some 28, _, _, _, _, _⟩) (v := .slice A zs.length c) rfl (by kernel_rfl) (by kernel_rfl) (by kernel_rfl) (fun _ _ _ h => h) (Or.inl ⟨by kernel_rfl, by intro wx; go_simp⟩) ?_
          try simp only [Act.put, List.setIfInBounds_toArray, List.set_cons_zero, List.set_cons_succ]
          refine wpAny_take (i := 20) (oi := ⟨some 29, _, _, _, _, _⟩) (v := .int .i64 level) rfl (by kernel_rfl) (by kernel_rfl) (by kernel_rfl) (fun _ _ _ h => h) (Or.inl ⟨by kernel_rfl, by intro wx; go_simp⟩) ?_
          try simp only [Act.put, List.setIfInBounds_toArray, List.set_cons_zero, List.set_cons_succ]
          refine wpAny_ready (rs := [18]) (by kernel_rfl) (by simp) ?_
          refine AllReady.cons rfl (fun K hK => ?_) AllReady.nil
          · rw [if_pos (by kernel_rfl)]
            refine wp_callT3 _ _ (by go_simp) (limbs_calls (valS zs level) g 2 5 5 V4 HV.out (by decide) (by decide) P_V4.lw.lbs) ?_
            rintro e V5 ⟨v1, rfl, hd1, hb5⟩
            refine ⟨_, rfl, ?_⟩
            have D_V5 := hd1
            have P_V5 := P_V4.keep hb5
            try dsimp only
            refine hK (Act.put _ (some 27) _) _ ?_
            try simp only [Act.put, List.setIfInBounds_toArray, List.set_cons_zero, List.set_cons_succ]
            clear hK K
            refine wpAny_ready (rs := [21]) (by kernel_rfl) (by simp) ?_
            refine AllReady.cons rfl (fun K hK => ?_) AllReady.nil
            · rw [if_pos (by kernel_rfl)]
              refine wp_callT3 _ _ (by go_simp) (rvalue_calls (.slice A zs.length c) zs level V5 P_V5.zs) ?_
              rintro e V6 ⟨v2, rfl, hd2, hb6⟩
              refine ⟨_, rfl, ?_⟩
              have E_V6 := hd2
              have P_V6 := P_V5.keep hb6
              have D_V6 := D_V5.below hb6
              try dsimp only
              refine hK (Act.put _ (some 30) _) _ ?_
              try simp only [Act.put, List.setIfInBounds_toArray, List.set_cons_zero, List.set_cons_succ]
              clear hK K
              refine wpAny_ready (rs := [22]) (by kernel_rfl) (by simp) ?_
              refine AllReady.cons rfl (fun K hK => ?_) AllReady.nil
              · rw [if_pos (by kernel_rfl)]
                refine wp_callT3 _ _ (by go_simp) (r5cmp_calls (valS zs level) (valS zs level) v1 v2 V6 D_V6 E_V6) ?_
                rintro e V7 ⟨rfl, hb7⟩
                rw [hself.out]
                refine ⟨_, rfl, ?_⟩
                have P_V7 := P_V6.keep hb7
                have D_V7 := D_V6.below hb7
                have E_V7 := E_V6.below hb7
                try dsimp only
                refine hK (Act.put _ (some 31) _) _ ?_
                try simp only [Act.put, List.setIfInBounds_toArray, List.set_cons_zero, List.set_cons_succ]
                clear hK K
                refine wpAny_take (i := 23) (oi := ⟨some 32, _, _, _, _, _⟩) (v := .bool true) rfl (by kernel_rfl) (by kernel_rfl) (by kernel_rfl) (fun _ _ _ h => h) (Or.inl ⟨by kernel_rfl, by intro wx; go_simp⟩) ?_
                try simp only [Act.put, List.setIfInBounds_toArray, List.set_cons_zero, List.set_cons_succ]
                refine wpAny_take (i := 24) (oi := ⟨some 33, _, _, _, _, _⟩) (v := .bool true) rfl (by kernel_rfl) (by kernel_rfl) (by kernel_rfl) (fun _ _ _ h => h) (Or.inl ⟨by kernel_rfl, by intro wx; go_simp⟩) ?_
                try simp only [Act.put, List.setIfInBounds_toArray, List.set_cons_zero, List.set_cons_succ]
                refine wpAny_take (i := 25) (oi := ⟨some 8, _, _, _, _, _⟩) (v := .bool true) rfl (by kernel_rfl) (by kernel_rfl) (by kernel_rfl) (fun _ _ _ h => h) (Or.inl ⟨by rfl, by intro wx; go_simp⟩) ?_
                try simp only [Act.put, List.setIfInBounds_toArray, List.set_cons_zero, List.set_cons_succ]
                refine wpAny_done (by kernel_rfl) ?_ _
                have PZ := Lib.hid P_V7.lw.bel
                clear P_V7
                go_wp2_with fail
                go_ret
                exact ⟨rfl, PZ.out⟩
      · rw [if_pos (by kernel_rfl)]
        refine wp_callT3 _ _ (by go_simp) (rmay_calls (.slice A zs.length c) zs level m V2 P_V2.zs) ?_
        rintro e V8 ⟨rfl, hb8⟩
        refine ⟨_, rfl, ?_⟩
        have P_V8 := P_V2.keep hb8
        try dsimp only
        refine hK (Act.put _ (some 21) _) _ ?_
        try simp only [Act.put, List.setIfInBounds_toArray, List.set_cons_zero, List.set_cons_succ]
        clear hK K
        refine wpAny_ready (rs := [8]) (by kernel_rfl) (by simp) ?_
        refine AllReady.cons rfl (fun K hK => ?_) AllReady.nil
        · rw [if_pos (by kernel_rfl)]
          refine wp_valT (exec_load rfl (by rfl) (ld_b (hf1 P_V8.lw.bx))) ?_
          refine hK (Act.put _ (some 17) _) _ ?_
          try simp only [Act.put, List.setIfInBounds_toArray, List.set_cons_zero, List.set_cons_succ]
          clear hK K
          refine wpAny_take (i := 13) (oi := ⟨some 22, _, _, _, _, _⟩) (v := .bool true) rfl (by kernel_rfl) (by kernel_rfl) (by kernel_rfl) (fun _ _ _ h => h) (Or.inl ⟨by kernel_rfl, by intro wx; go_simp⟩) ?_
          try simp only [Act.put, List.setIfInBounds_toArray, List.set_cons_zero, List.set_cons_succ]
          refine wpAny_take (i := 14) (oi := ⟨some 23, _, _, _, _, _⟩) (v := .bool true) rfl (by kernel_rfl) (by kernel_rfl) (by kernel_rfl) (fun _ _ _ h => h) (Or.inl ⟨by kernel_rfl, by intro wx; go_simp⟩) ?_
          try simp only [Act.put, List.setIfInBounds_toArray, List.set_cons_zero, List.set_cons_succ]
          refine wpAny_take (i := 15) (oi := ⟨some 24, _, _, _, _, _⟩) (v := .bool true) rfl (by kernel_rfl) (by kernel_rfl) (by kernel_rfl) (fun _ _ _ h => h) (Or.inl ⟨by kernel_rfl, by intro wx; go_simp⟩) ?_
          try simp only [Act.put, List.setIfInBounds_toArray, List.set_cons_zero, List.set_cons_succ]
          refine wpAny_take (i := 16) (oi := ⟨some 25, _, _, _, _, _⟩) (v := .pointer (some ⟨g, 2, none⟩)) rfl (by kernel_rfl) (by kernel_rfl) (by kernel_rfl) (fun _ _ _ h => h) (Or.inl ⟨by kernel_rfl, by intro wx; go_simp⟩) ?_
          try simp only [Act.put, List.setIfInBounds_toArray, List.set_cons_zero, List.set_cons_succ]
          refine wpAny_take (i := 17) (oi := ⟨some 26, _, _, _, _, _⟩) (v := .slice (some ⟨g, 2, none⟩) 5 5) rfl (by kernel_rfl) (by kernel_rfl) (by kernel_rfl) (fun _ _ _ h => h) (Or.inl ⟨by kernel_rfl, by intro wx; go_simp⟩) ?_
          try simp only [Act.put, List.setIfInBounds_toArray, List.set_cons_zero, List.set_cons_succ]
          refine wpAny_take (i := 19) (oi := ⟨some 28, _, _, _, _, _⟩) (v := .slice A zs.length c) rfl (by kernel_rfl) (by kernel_rfl) (by kernel_rfl) (fun _ _ _ h => h) (Or.inl ⟨by kernel_rfl, by intro wx; go_simp⟩) ?_
          try simp only [Act.put, List.setIfInBounds_toArray, List.set_cons_zero, List.set_cons_succ]
          refine wpAny_take (i := 20) (oi := ⟨some 29, _, _, _, _, _⟩) (v := .int .i64 level) rfl (by kernel_rfl) (by kernel_rfl) (by kernel_rfl) (fun _ _ _ h => h) (Or.inl ⟨by kernel_rfl, by intro wx; go_simp⟩) ?_
          try simp only [Act.put, List.setIfInBounds_toArray, List.set_cons_zero, List.set_cons_succ]
          refine wpAny_ready (rs := [18]) (by kernel_rfl) (by simp) ?_
          refine AllReady.cons rfl (fun K hK => ?_) AllReady.nil
          · rw [if_pos (by kernel_rfl)]
            refine wp_callT3 _ _ (by go_simp) (limbs_calls (valS zs level) g 2 5 5 V8 HV.out (by decide) (by decide) P_V8.lw.lbs) ?_
            rintro e V10 ⟨v1, rfl, hd1, hb10⟩
            refine ⟨_, rfl, ?_⟩
            have D_V10 := hd1
            have P_V10 := P_V8.keep hb10
            try dsimp only
            refine hK (Act.put _ (some 27) _) _ ?_
            try simp only [Act.put, List.setIfInBounds_toArray, List.set_cons_zero, List.set_cons_succ]
            clear hK K
            refine wpAny_ready (rs := [21]) (by kernel_rfl) (by simp) ?_
            refine AllReady.cons rfl (fun K hK => ?_) AllReady.nil
            · rw [if_pos (by kernel_rfl)]
              refine wp_callT3 _ _ (by go_simp) (rvalue_calls (.slice A zs.length c) zs level V10 P_V10.zs) ?_
              rintro e V11 ⟨v2, rfl, hd2, hb11⟩
              refine ⟨_, rfl, ?_⟩
              have E_V11 := hd2
              have P_V11 := P_V10.keep hb11
              have D_V11 := D_V10.below hb11
              try dsimp only
              refine hK (Act.put _ (some 30) _) _ ?_
              try simp only [Act.put, List.setIfInBounds_toArray, List.set_cons_zero, List.set_cons_succ]
              clear hK K
              refine wpAny_ready (rs := [22]) (by kernel_rfl) (by simp) ?_
              refine AllReady.cons rfl (fun K hK => ?_) AllReady.nil
              · rw [if_pos (by kernel_rfl)]
                refine wp_callT3 _ _ (by go_simp) (r5cmp_calls (valS zs level) (valS zs level) v1 v2 V11 D_V11 E_V11) ?_
                rintro e V12 ⟨rfl, hb12⟩
                rw [hself.out]
                refine ⟨_, rfl, ?_⟩
                have P_V12 := P_V11.keep hb12
                have D_V12 := D_V11.below hb12
                have E_V12 := E_V11.below hb12
                try dsimp only
                refine hK (Act.put _ (some 31) _) _ ?_
                try simp only [Act.put, List.setIfInBounds_toArray, List.set_cons_zero, List.set_cons_succ]
                clear hK K
                refine wpAny_take (i := 23) (oi := ⟨some 32, _, _, _, _, _⟩) (v := .bool true) rfl (by kernel_rfl) (by kernel_rfl) (by kernel_rfl) (fun _ _ _ h => h) (Or.inl ⟨by kernel_rfl, by intro wx; go_simp⟩) ?_
                try simp only [Act.put, List.setIfInBounds_toArray, List.set_cons_zero, List.set_cons_succ]
                refine wpAny_take (i := 24) (oi := ⟨some 33, _, _, _, _, _⟩) (v := .bool true) rfl (by kernel_rfl) (by kernel_rfl) (by kernel_rfl) (fun _ _ _ h => h) (Or.inl ⟨by kernel_rfl, by intro wx; go_simp⟩) ?_
                try simp only [Act.put, List.setIfInBounds_toArray, List.set_cons_zero, List.set_cons_succ]
                refine wpAny_take (i := 25) (oi := ⟨some 8, _, _, _, _, _⟩) (v := .bool true) rfl (by kernel_rfl) (by kernel_rfl) (by kernel_rfl) (fun _ _ _ h => h) (Or.inl ⟨by rfl, by intro wx; go_simp⟩) ?_
                try simp only [Act.put, List.setIfInBounds_toArray, List.set_cons_zero, List.set_cons_succ]
                refine wpAny_done (by kernel_rfl) ?_ _
                have PZ := Lib.hid P_V12.lw.bel
                clear P_V12
                go_wp2_with fail
                go_ret
                exact ⟨rfl, PZ.out⟩
  · rw [if_pos (by kernel_rfl)]
    refine wp_callT3 _ _ (by go_simp) (rcount_calls (.slice A zs.length c) zs level X0 P_X0.zs) ?_
    rintro e V13 ⟨rfl, hw13⟩
    have hb13 : Below X0.heap.size X0 V13 := by rw [hw13]; exact Below.refl _ _
    clear hw13
    refine ⟨_, rfl, ?_⟩
    have P_V13 := P_X0.keep hb13
    try dsimp only
    refine hK (Act.put _ (some 13) _) _ ?_
    try simp only [Act.put, List.setIfInBounds_toArray, List.set_cons_zero, List.set_cons_succ]
    clear hK K
    refine wpAny_ready (rs := [1]) (by kernel_rfl) (by simp) ?_
    refine AllReady.cons rfl (fun K hK => ?_) AllReady.nil
    · refine step_load rfl 3 _ rfl _ rfl (.int .i64 ((cnt zs level : Nat) : Int)) (ldi (hf0 P_V13.lw.bx)) ?_
      refine hK (Act.put _ (some 10) _) _ ?_
      try simp only [Act.put, List.setIfInBounds_toArray, List.set_cons_zero, List.set_cons_succ]
      clear hK K
      refine wpAny_take (i := 5) (oi := ⟨some 14, _, _, _, _, _⟩) (v := .bool true) rfl (by kernel_rfl) (by kernel_rfl) (by kernel_rfl) (fun _ _ _ h => h) (Or.inl ⟨by rfl, by intro wx; go_simp⟩) ?_
      try simp only [Act.put, List.setIfInBounds_toArray, List.set_cons_zero, List.set_cons_succ]
      refine wpAny_take (i := 6) (oi := ⟨some 15, _, _, _, _, _⟩) (v := .bool true) rfl (by kernel_rfl) (by kernel_rfl) (by kernel_rfl) (fun _ _ _ h => h) (Or.inl ⟨by rfl, by intro wx; go_simp⟩) ?_
      try simp only [Act.put, List.setIfInBounds_toArray, List.set_cons_zero, List.set_cons_succ]
      refine wpAny_take (i := 7) (oi := ⟨some 16, _, _, _, _, _⟩) (v := .pointer (some ⟨g, 1, none⟩)) rfl (by kernel_rfl) (by kernel_rfl) (by kernel_rfl) (fun _ _ _ h => h) (Or.inl ⟨by kernel_rfl, by intro wx; go_simp⟩) ?_
      try simp only [Act.put, List.setIfInBounds_toArray, List.set_cons_zero, List.set_cons_succ]
      refine wpAny_take (i := 9) (oi := ⟨some 18, _, _, _, _, _⟩) (v := .slice A zs.length c) rfl (by kernel_rfl) (by kernel_rfl) (by kernel_rfl) (fun _ _ _ h => h) (Or.inl ⟨by kernel_rfl, by intro wx; go_simp⟩) ?_
      try simp only [Act.put, List.setIfInBounds_toArray, List.set_cons_zero, List.set_cons_succ]
      refine wpAny_take (i := 10) (oi := ⟨some 19, _, _, _, _, _⟩) (v := .int .i64 level) rfl (by kernel_rfl) (by kernel_rfl) (by kernel_rfl) (fun _ _ _ h => h) (Or.inl ⟨by kernel_rfl, by intro wx; go_simp⟩) ?_
      try simp only [Act.put, List.setIfInBounds_toArray, List.set_cons_zero, List.set_cons_succ]
      refine wpAny_take (i := 11) (oi := ⟨some 20, _, _, _, _, _⟩) (v := .int .i64 m) rfl (by kernel_rfl) (by kernel_rfl) (by kernel_rfl) (fun _ _ _ h => h) (Or.inl ⟨by kernel_rfl, by intro wx; go_simp⟩) ?_
      try simp only [Act.put, List.setIfInBounds_toArray, List.set_cons_zero, List.set_cons_succ]
      refine wpAny_ready (rs := [8, 12]) (by kernel_rfl) (by simp) ?_
      refine AllReady.cons rfl (fun K hK => ?_) (AllReady.cons rfl (fun K hK => ?_) AllReady.nil)
      · rw [if_pos (by kernel_rfl)]
        refine wp_valT (exec_load rfl (by rfl) (ld_b (hf1 P_V13.lw.bx))) ?_
        refine hK (Act.put _ (some 17) _) _ ?_
        try simp only [Act.put, List.setIfInBounds_toArray, List.set_cons_zero, List.set_cons_succ]
        clear hK K
        refine wpAny_ready (rs := [12]) (by kernel_rfl) (by simp) ?_
        refine AllReady.cons rfl (fun K hK => ?_) AllReady.nil
        · rw [if_pos (by kernel_rfl)]
          refine wp_callT3 _ _ (by go_simp) (rmay_calls (.slice A zs.length c) zs level m V13 P_V13.zs) ?_
          rintro e V16 ⟨rfl, hb16⟩
          refine ⟨_, rfl, ?_⟩
          have P_V16 := P_V13.keep hb16
          try dsimp only
          refine hK (Act.put _ (some 21) _) _ ?_
          try simp only [Act.put, List.setIfInBounds_toArray, List.set_cons_zero, List.set_cons_succ]
          clear hK K
          refine wpAny_take (i := 13) (oi := ⟨some 22, _, _, _, _, _⟩) (v := .bool true) rfl (by kernel_rfl) (by kernel_rfl) (by kernel_rfl) (fun _ _ _ h => h) (Or.inl ⟨by kernel_rfl, by intro wx; go_simp⟩) ?_
          try simp only [Act.put, List.setIfInBounds_toArray, List.set_cons_zero, List.set_cons_succ]
          refine wpAny_take (i := 14) (oi := ⟨some 23, _, _, _, _, _⟩) (v := .bool true) rfl (by kernel_rfl) (by kernel_rfl) (by kernel_rfl) (fun _ _ _ h => h) (Or.inl ⟨by kernel_rfl, by intro wx; go_simp⟩) ?_
          try simp only [Act.put, List.setIfInBounds_toArray, List.set_cons_zero, List.set_cons_succ]
          refine wpAny_take (i := 15) (oi := ⟨some 24, _, _, _, _, _⟩) (v := .bool true) rfl (by kernel_rfl) (by kernel_rfl) (by kernel_rfl) (fun _ _ _ h => h) (Or.inl ⟨by kernel_rfl, by intro wx; go_simp⟩) ?_
          try simp only [Act.put, List.setIfInBounds_toArray, List.set_cons_zero, List.set_cons_succ]
          refine wpAny_take (i := 16) (oi := ⟨some 25, _, _, _, _, _⟩) (v := .pointer (some ⟨g, 2, none⟩)) rfl (by kernel_rfl) (by kernel_rfl) (by kernel_rfl) (fun _ _ _ h => h) (Or.inl ⟨by kernel_rfl, by intro wx; go_simp⟩) ?_
          try simp only [Act.put, List.setIfInBounds_toArray, List.set_cons_zero, List.set_cons_succ]
          refine wpAny_take (i := 17) (oi := ⟨some 26, _, _, _, _, _⟩) (v := .slice (some ⟨g, 2, none⟩) 5 5) rfl (by kernel_rfl) (by kernel_rfl) (by kernel_rfl) (fun _ _ _ h => h) (Or.inl ⟨by kernel_rfl, by intro wx; go_simp⟩) ?_
          try simp only [Act.put, List.setIfInBounds_toArray, List.set_cons_zero, List.set_cons_succ]
          refine wpAny_take (i := 19) (oi := ⟨some 28, _, _, _, _, _⟩) (v := .slice A zs.length c) rfl (by kernel_rfl) (by kernel_rfl) (by kernel_rfl) (fun _ _ _ h => h) (Or.inl ⟨by kernel_rfl, by intro wx; go_simp⟩) ?_
          try simp only [Act.put, List.setIfInBounds_toArray, List.set_cons_zero, List.set_cons_succ]
          refine wpAny_take (i := 20) (oi := ⟨some 29, _, _, _, _, _⟩) (v := .int .i64 level) rfl (by kernel_rfl) (by kernel_rfl) (by kernel_rfl) (fun _ _ _ h => h) (Or.inl ⟨by kernel_rfl, by intro wx; go_simp⟩) ?_
          try simp only [Act.put, List.setIfInBounds_toArray, List.set_cons_zero, List.set_cons_succ]
          refine wpAny_ready (rs := [18]) (by kernel_rfl) (by simp) ?_
          refine AllReady.cons rfl (fun K hK => ?_) AllReady.nil
          · rw [if_pos (by kernel_rfl)]
            refine wp_callT3 _ _ (by go_simp) (limbs_calls (valS zs level) g 2 5 5 V16 HV.out (by decide) (by decide) P_V16.lw.lbs) ?_
            rintro e V17 ⟨v1, rfl, hd1, hb17⟩
            refine ⟨_, rfl, ?_⟩
            have D_V17 := hd1
            have P_V17 := P_V16.keep hb17
            try dsimp only
            refine hK (Act.put _ (some 27) _) _ ?_
            try simp only [Act.put, List.setIfInBounds_toArray, List.set_cons_zero, List.set_cons_succ]
            clear hK K
            refine wpAny_ready (rs := [21]) (by kernel_rfl) (by simp) ?_
            refine AllReady.cons rfl (fun K hK => ?_) AllReady.nil
            · rw [if_pos (by kernel_rfl)]
              refine wp_callT3 _ _ (by go_simp) (rvalue_calls (.slice A zs.length c) zs level V17 P_V17.zs) ?_
              rintro e V18 ⟨v2, rfl, hd2, hb18⟩
              refine ⟨_, rfl, ?_⟩
              have E_V18 := hd2
              have P_V18 := P_V17.keep hb18
              have D_V18 := D_V17.below hb18
              try dsimp only
              refine hK (Act.put _ (some 30) _) _ ?_
              try simp only [Act.put, List.setIfInBounds_toArray, List.set_cons_zero, List.set_cons_succ]
              clear hK K
              refine wpAny_ready (rs := [22]) (by kernel_rfl) (by simp) ?_
              refine AllReady.cons rfl (fun K hK => ?_) AllReady.nil
              · rw [if_pos (by kernel_rfl)]
                refine wp_callT3 _ _ (by go_simp) (r5cmp_calls (valS zs level) (valS zs level) v1 v2 V18 D_V18 E_V18) ?_
                rintro e V19 ⟨rfl, hb19⟩
                rw [hself.out]
                refine ⟨_, rfl, ?_⟩
                have P_V19 := P_V18.keep hb19
                have D_V19 := D_V18.below hb19
                have E_V19 := E_V18.below hb19
                try dsimp only
                refine hK (Act.put _ (some 31) _) _ ?_
                try simp only [Act.put, List.setIfInBounds_toArray, List.set_cons_zero, List.set_cons_succ]
                clear hK K
                refine wpAny_take (i := 23) (oi := ⟨some 32, _, _, _, _, _⟩) (v := .bool true) rfl (by kernel_rfl) (by kernel_rfl) (by kernel_rfl) (fun _ _ _ h => h) (Or.inl ⟨by kernel_rfl, by intro wx; go_simp⟩) ?_
                try simp only [Act.put, List.setIfInBounds_toArray, List.set_cons_zero, List.set_cons_succ]
                refine wpAny_take (i := 24) (oi := ⟨some 33, _, _, _, _, _⟩) (v := .bool true) rfl (by kernel_rfl) (by kernel_rfl) (by kernel_rfl) (fun _ _ _ h => h) (Or.inl ⟨by kernel_rfl, by intro wx; go_simp⟩) ?_
                try simp only [Act.put, List.setIfInBounds_toArray, List.set_cons_zero, List.set_cons_succ]
                refine wpAny_take (i := 25) (oi := ⟨some 8, _, _, _, _, _⟩) (v := .bool true) rfl (by kernel_rfl) (by kernel_rfl) (by kernel_rfl) (fun _ _ _ h => h) (Or.inl ⟨by rfl, by intro wx; go_simp⟩) ?_
                try simp only [Act.put, List.setIfInBounds_toArray, List.set_cons_zero, List.set_cons_succ]
                refine wpAny_done (by kernel_rfl) ?_ _
                have PZ := Lib.hid P_V19.lw.bel
                clear P_V19
                go_wp2_with fail
                go_ret
                exact ⟨rfl, PZ.out⟩
      · rw [if_pos (by kernel_rfl)]
        refine wp_callT3 _ _ (by go_simp) (rmay_calls (.slice A zs.length c) zs level m V13 P_V13.zs) ?_
        rintro e V20 ⟨rfl, hb20⟩
        refine ⟨_, rfl, ?_⟩
        have P_V20 := P_V13.keep hb20
        try dsimp only
        refine hK (Act.put _ (some 21) _) _ ?_
        try simp only [Act.put, List.setIfInBounds_toArray, List.set_cons_zero, List.set_cons_succ]
        clear hK K
        refine wpAny_ready (rs := [8]) (by kernel_rfl) (by simp) ?_
        refine AllReady.cons rfl (fun K hK => ?_) AllReady.nil
        · rw [if_pos (by kernel_rfl)]
          refine wp_valT (exec_load rfl (by rfl) (ld_b (hf1 P_V20.lw.bx))) ?_
          refine hK (Act.put _ (some 17) _) _ ?_
          try simp only [Act.put, List.setIfInBounds_toArray, List.set_cons_zero, List.set_cons_succ]
          clear hK K
          refine wpAny_take (i := 13) (oi := ⟨some 22, _, _, _, _, _⟩) (v := .bool true) rfl (by kernel_rfl) (by kernel_rfl) (by kernel_rfl) (fun _ _ _ h => h) (Or.inl ⟨by kernel_rfl, by intro wx; go_simp⟩) ?_
          try simp only [Act.put, List.setIfInBounds_toArray, List.set_cons_zero, List.set_cons_succ]
          refine wpAny_take (i := 14) (oi := ⟨some 23, _, _, _, _, _⟩) (v := .bool true) rfl (by kernel_rfl) (by kernel_rfl) (by kernel_rfl) (fun _ _ _ h => h) (Or.inl ⟨by kernel_rfl, by intro wx; go_simp⟩) ?_
          try simp only [Act.put, List.setIfInBounds_toArray, List.set_cons_zero, List.set_cons_succ]
          refine wpAny_take (i := 15) (oi := ⟨some 24, _, _, _, _, _⟩) (v := .bool true) rfl (by kernel_rfl) (by kernel_rfl) (by kernel_rfl) (fun _ _ _ h => h) (Or.inl ⟨by kernel_rfl, by intro wx; go_simp⟩) ?_
          try simp only [Act.put, List.setIfInBounds_toArray, List.set_cons_zero, List.set_cons_succ]
          refine wpAny_take (i := 16) (oi := ⟨some 25, _, _, _, _, _⟩) (v := .pointer (some ⟨g, 2, none⟩)) rfl (by kernel_rfl) (by kernel_rfl) (by kernel_rfl) (fun _ _ _ h => h) (Or.inl ⟨by kernel_rfl, by intro wx; go_simp⟩) ?_
          try simp only [Act.put, List.setIfInBounds_toArray, List.set_cons_zero, List.set_cons_succ]
          refine wpAny_take (i := 17) (oi := ⟨some 26, _, _, _, _, _⟩) (v := .slice (some ⟨g, 2, none⟩) 5 5) rfl (by kernel_rfl) (by kernel_rfl) (by kernel_rfl) (fun _ _ _ h => h) (Or.inl ⟨by kernel_rfl, by intro wx; go_simp⟩) ?_
          try simp only [Act.put, List.setIfInBounds_toArray, List.set_cons_zero, List.set_cons_succ]
          refine wpAny_take (i := 19) (oi := ⟨some 28, _, _, _, _, _⟩) (v := .slice A zs.length c) rfl (by kernel_rfl) (by kernel_rfl) (by kernel_rfl) (fun _ _ _ h => h) (Or.inl ⟨by kernel_rfl, by intro wx; go_simp⟩) ?_
          try simp only [Act.put, List.setIfInBounds_toArray, List.set_cons_zero, List.set_cons_succ]
          refine wpAny_take (i := 20) (oi := ⟨some 29, _, _, _, _, _⟩) (v := .int .i64 level) rfl (by kernel_rfl) (by kernel_rfl) (by kernel_rfl) (fun _ _ _ h => h) (Or.inl ⟨by kernel_rfl, by intro wx; go_simp⟩) ?_
          try simp only [Act.put, List.setIfInBounds_toArray, List.set_cons_zero, List.set_cons_succ]
          refine wpAny_ready (rs := [18]) (by kernel_rfl) (by simp) ?_
          refine AllReady.cons rfl (fun K hK => ?_) AllReady.nil
          · rw [if_pos (by kernel_rfl)]
            refine wp_callT3 _ _ (by go_simp) (limbs_calls (valS zs level) g 2 5 5 V20 HV.out (by decide) (by decide) P_V20.lw.lbs) ?_
            rintro e V22 ⟨v1, rfl, hd1, hb22⟩
            refine ⟨_, rfl, ?_⟩
            have D_V22 := hd1
            have P_V22 := P_V20.keep hb22
            try dsimp only
            refine hK (Act.put _ (some 27) _) _ ?_
            try simp only [Act.put, List.setIfInBounds_toArray, List.set_cons_zero, List.set_cons_succ]
            clear hK K
            refine wpAny_ready (rs := [21]) (by kernel_rfl) (by simp) ?_
            refine AllReady.cons rfl (fun K hK => ?_) AllReady.nil
            · rw [if_pos (by kernel_rfl)]
              refine wp_callT3 _ _ (by go_simp) (rvalue_calls (.slice A zs.length c) zs level V22 P_V22.zs) ?_
              rintro e V23 ⟨v2, rfl, hd2, hb23⟩
              refine ⟨_, rfl, ?_⟩
              have E_V23 := hd2
              have P_V23 := P_V22.keep hb23
              have D_V23 := D_V22.below hb23
              try dsimp only
              refine hK (Act.put _ (some 30) _) _ ?_
              try simp only [Act.put, List.setIfInBounds_toArray, List.set_cons_zero, List.set_cons_succ]
              clear hK K
              refine wpAny_ready (rs := [22]) (by kernel_rfl) (by simp) ?_
              refine AllReady.cons rfl (fun K hK => ?_) AllReady.nil
              · rw [if_pos (by kernel_rfl)]
                refine wp_callT3 _ _ (by go_simp) (r5cmp_calls (valS zs level) (valS zs level) v1 v2 V23 D_V23 E_V23) ?_
                rintro e V24 ⟨rfl, hb24⟩
                rw [hself.out]
                refine ⟨_, rfl, ?_⟩
                have P_V24 := P_V23.keep hb24
                have D_V24 := D_V23.below hb24
                have E_V24 := E_V23.below hb24
                try dsimp only
                refine hK (Act.put _ (some 31) _) _ ?_
                try simp only [Act.put, List.setIfInBounds_toArray, List.set_cons_zero, List.set_cons_succ]
                clear hK K
                refine wpAny_take (i := 23) (oi := ⟨some 32, _, _, _, _, _⟩) (v := .bool true) rfl (by kernel_rfl) (by kernel_rfl) (by kernel_rfl) (fun _ _ _ h => h) (Or.inl ⟨by kernel_rfl, by intro wx; go_simp⟩) ?_
                try simp only [Act.put, List.setIfInBounds_toArray, List.set_cons_zero, List.set_cons_succ]
                refine wpAny_take (i := 24) (oi := ⟨some 33, _, _, _, _, _⟩) (v := .bool true) rfl (by kernel_rfl) (by kernel_rfl) (by kernel_rfl) (fun _ _ _ h => h) (Or.inl ⟨by kernel_rfl, by intro wx; go_simp⟩) ?_
                try simp only [Act.put, List.setIfInBounds_toArray, List.set_cons_zero, List.set_cons_succ]
                refine wpAny_take (i := 25) (oi := ⟨some 8, _, _, _, _, _⟩) (v := .bool true) rfl (by kernel_rfl) (by kernel_rfl) (by kernel_rfl) (fun _ _ _ h => h) (Or.inl ⟨by rfl, by intro wx; go_simp⟩) ?_
                try simp only [Act.put, List.setIfInBounds_toArray, List.set_cons_zero, List.set_cons_succ]
                refine wpAny_done (by kernel_rfl) ?_ _
                have PZ := Lib.hid P_V24.lw.bel
                clear P_V24
                go_wp2_with fail
                go_ret
                exact ⟨rfl, PZ.out⟩
end Go.Proofs.YtihdeanfcbiflaaDoor.Wh

/- The walk of chapter 43's law WhyTables. -/
namespace Go.Proofs.YtihdeanfcbiflaaDoor.Wh
open Go.RowKit Go.Proofs.YtihdeanfcbiflaaDoor.Mk Go.Proofs.YtihdeanfcbiflaaDoor.Ul Go.Proofs.YtihdeanfcbiflaaDoor.Wi Go.Proofs.YtihdeanfcbiflaaDoor.Lg Go.Proofs.YtihdeanfcbiflaaDoor.Up Go.Proofs.YtihdeanfcbiflaaDoor.Sc
open Go.Proofs.YtihdeanfcbiflaaDoor.Common (lastU lastP firstI firstI_lt lastP_of)
theorem USd : Tryd.prog.underlying 38 = some (.struct (Tryd.prog.fieldsOf 38)) := by kernel_rfl
theorem ldSD {w : World} {g : Nat} {vi vl : Value} (h : w.heap[g]? = some (sdB vi vl)) : (Instr.loadAt 38 (.pointer (some ⟨g, 0, none⟩))).run Tryd.prog w = .ok (.agg #[vi, vl]) w := by
  have := run_loadVar_row (P := Tryd.prog) w g _ 38 _ _ _ h USd rfl (by show _ = some 2; kernel_rfl)
  simp only [Instr.loadAt, Instr.sureAddr, Sem.run_bind, Sem.run_pure, Result.andThen_ok, this]
theorem row_at {rows : List Ro} {xs ys : List Int} {m : Int} {t n : Nat} (h : rows = tabL xs ys m t) (hlt : n < rows.length) : rows[n]? = some ⟨(n : Int), halfS xs n m, halfS ys n m⟩ := by
  subst h
  rw [tabL_len] at hlt
  unfold tabL
  rw [List.getElem?_map, List.getElem?_range hlt]
  rfl
set_option maxHeartbeats 16000000 in
set_option maxRecDepth 100000 in
theorem lawTables_calls (va vb : Value) (ia ib : List (List UInt8)) (za zb : List Int) (m : Int) (w : World) (ha : SD w va ia za) (hb : SD w vb ib zb) :
    Calls Tryd.prog 4 #[va, vb, .int .i64 m] w fun e w' => e = .returned (.bool true) ∧ Below w.heap.size w w' := by
  have HA := Lib.hid (fun wx => awake_calls wx)
  obtain ⟨vi, vl, rfl, h1, h2⟩ := ha
  obtain ⟨vj, vk, rfl, h3, h4⟩ := hb
  have hlen := h1.bd
  have hlen2 := h3.bd
  have hB0 : Below w.heap.size w ((w.alloc (sdB vi vl)).alloc (sdB vj vk)) := ((Below.refl _ _).alloc (Nat.le_refl _) _).alloc (by simp) _
  have T0 : TS w.heap.size vi vl vj vk za zb w ((w.alloc (sdB vi vl)).alloc (sdB vj vk)) := by
    have e2 := heap_new (w.alloc (sdB vi vl)) (sdB vj vk)
    rw [show (w.alloc (sdB vi vl)).heap.size = w.heap.size + 1 by simp] at e2
    exact ⟨(((Below.refl _ _).alloc (Nat.le_refl _) _ : Below (w.alloc (sdB vi vl)).heap.size (w.alloc (sdB vi vl)) ((w.alloc (sdB vi vl)).alloc (sdB vj vk))).block _ (by simp)).trans (heap_new _ _), e2, h2.below hB0, h4.below hB0, hB0⟩
  have HS := Lib.hid (show ∀ wx, Below ((w.alloc (sdB vi vl)).alloc (sdB vj vk)).heap.size ((w.alloc (sdB vi vl)).alloc (sdB vj vk)) wx → SL hc 32 wx vi ia ∧ SL hc 32 wx vj ib from fun wx hx => ⟨(h1.below hB0).below hx, (h3.below hB0).below hx⟩)
  have TT := Lib.hid T0
  clear T0 hB0
  obtain ⟨_, _, Ai, ki, rfl, _, _, _⟩ := h1
  obtain ⟨_, _, Aj, kj, rfl, _, _, _⟩ := h3
  obtain ⟨Al, kl, rfl, _, _, _⟩ := h2.cell1
  obtain ⟨Ak, kk, rfl, _, _, _⟩ := h4.cell1
  clear h2 h4
  obtain ⟨g, hg⟩ : ∃ g, g = w.heap.size := ⟨_, rfl⟩
  rw [← hg] at TT
  have hcase := lastU_cases ia ib ia.length
  unfold sdB at TT HS
  go_enter Tryd.func4, Tryd.ntmps4
  go_upto_region 1 with fail
  rw [← hg]
  clear hg
  generalize World.alloc (World.alloc w _) _ = W0 at *
  have HX := Lib.hid (show ∀ wx, Below W0.heap.size W0 wx → TS g (.slice Ai ia.length ki) (.slice Al za.length kl) (.slice Aj ib.length kj) (.slice Ak zb.length kk) za zb w wx ∧ SD wx (.agg #[.slice Ai ia.length ki, .slice Al za.length kl]) ia za ∧ SD wx (.agg #[.slice Aj ib.length kj, .slice Ak zb.length kk]) ib zb ∧ SL hc 32 wx (.slice Ai ia.length ki) ia ∧ SL hc 32 wx (.slice Aj ib.length kj) ib from fun wx hx => by
    have t := TT.out.keep hx
    have s := HS.out wx hx
    exact ⟨t, ⟨_, _, rfl, s.1, t.za⟩, ⟨_, _, rfl, s.2, t.zb⟩, s.1, s.2⟩)
  have R0 := Lib.hid (Below.refl W0.heap.size W0)
  have La := Lib.hid (ldSD TT.out.b0)
  have Ga := Lib.hid (great_calls _ ia za W0 (HX.out W0 R0.out).2.1)
  clear TT HS
  go_wp2_with (refine wpList_loadg (by rfl) 38 (.tmp 3) (by rfl) _ (by rfl) _ La.out ?_)
  refine Ga.out.mono ?_
  rintro e w1 ⟨⟨b1, rfl, hz1⟩, hb1⟩
  have B1 := Lib.hid hb1
  clear hb1 La Ga R0
  cases b1 with
  | true =>
    have BW := Lib.hid (HX.out w1 B1.out).1.bel
    clear HX B1 hcase
    go_wp2_with fail
    refine (HA.out _).mono ?_
    rintro e wa ⟨rfl, hba⟩
    have BA := Lib.hid (below_up BW.out hba)
    clear hba HA
    go_wp2_with fail
    go_ret
    exact ⟨rfl, BA.out⟩
  | false =>
    have hz1 := hz1 rfl
    have Lb := Lib.hid (ldSD (HX.out w1 B1.out).1.b1)
    have Gb := Lib.hid (great_calls _ ib zb w1 (HX.out w1 B1.out).2.2.1)
    go_wp2_with (refine wpList_loadg (by rfl) 38 (.tmp 4) (by rfl) _ (by rfl) _ Lb.out ?_)
    refine Gb.out.mono ?_
    rintro e w2 ⟨⟨b2, rfl, hz2⟩, hb2⟩
    have B2 := Lib.hid (below_up B1.out hb2)
    clear hb2 Lb Gb B1
    cases b2 with
    | true =>
      have BW := Lib.hid (HX.out w2 B2.out).1.bel
      clear HX B2 hcase
      go_wp2_with fail
      refine (HA.out _).mono ?_
      rintro e wa ⟨rfl, hba⟩
      have BA := Lib.hid (below_up BW.out hba)
      clear hba HA
      go_wp2_with fail
      go_ret
      exact ⟨rfl, BA.out⟩
    | false =>
      have hz2 := hz2 rfl
      have La := Lib.hid (ldSD (HX.out w2 B2.out).1.b0)
      have Lb := Lib.hid (ldSD (HX.out w2 B2.out).1.b1)
      have TB := Lib.hid (table_calls _ _ ia ib za zb m w2 (HX.out w2 B2.out).2.1 (HX.out w2 B2.out).2.2.1)
      go_wp2_with (first | (refine wpList_loadg (by rfl) 38 (.tmp 3) (by rfl) _ (by rfl) _ La.out ?_) | (refine wpList_loadg (by rfl) 38 (.tmp 4) (by rfl) _ (by rfl) _ Lb.out ?_))
      refine TB.out.mono ?_
      rintro e w3 ⟨v7, rfl, hs7, hb3⟩
      have B3 := Lib.hid (below_up B2.out hb3)
      have hx3 := HX.out w3 B3.out
      have c0 := sd0 hx3.1.b0
      have c1 := sd0 hx3.1.b1
      have LC := Lib.hid (Common.rlast_calls ia ib _ _ w3 hx3.2.2.2.1 hx3.2.2.2.2)
      unfold lastP at LC
      have HR := Lib.hid (show tabR ia ib za zb m = if (lastU ia ib ia.length).1 < 0 then [] else tabL (za.drop ((lastU ia ib ia.length).1.toNat + 1)) (zb.drop ((lastU ia ib ia.length).2.toNat + 1)) m (topN (za.drop ((lastU ia ib ia.length).1.toNat + 1)) (zb.drop ((lastU ia ib ia.length).2.toNat + 1))) from rfl)
      have S7 := Lib.hid hs7
      clear hb3 hx3 TB La Lb B2 hs7
      generalize tabR ia ib za zb m = rows at *
      generalize lastU ia ib ia.length = u at *
      rcases hcase with rfl | ⟨i, k, rfl, hi, hk⟩
      · have hr0 := HR.out.trans (if_pos (by decide))
        subst hr0
        obtain ⟨_, _, A7, k7, rfl, _, _, _⟩ := S7.out
        clear S7 HR
        dsimp only at LC
        go_wp2_with fail
        refine LC.out.mono ?_
        rintro e w4 ⟨rfl, hb4⟩
        have BW := Lib.hid (HX.out w4 (below_up B3.out hb4)).1.bel
        clear hb4 HX B3 LC c0 c1
        go_wp2_with fail
        refine (HA.out _).mono ?_
        rintro e wa ⟨rfl, hba⟩
        have BA := Lib.hid (below_up BW.out hba)
        clear hba HA
        go_wp2_with fail
        go_ret
        exact ⟨rfl, BA.out⟩
      · have HR2 := Lib.hid (HR.out.trans (if_neg (by omega)))
        clear HR
        dsimp only at LC
        have t1 : decide ((i : Int) < 0) = false := decide_eq_false (by omega)
        go_wp2_with fail
        refine LC.out.mono ?_
        rintro e w4 ⟨rfl, hb4⟩
        have B4 := Lib.hid (below_up B3.out hb4)
        have S7 := Lib.hid (S7.out.below hb4)
        clear hb4 B3 LC c0 c1
        go_upto_region 7 with fail
        go_cut [10, 11] (fun s10 s11 wx => Hid (ZS wx s10 (za.drop (i + 1)) ∧ ZS wx s11 (zb.drop (k + 1)) ∧ SL roC 15 wx v7 rows ∧ Below w.heap.size w wx))
        case first =>
          have P_X0 := (HX.out w4 B4.out).1.keep (Below.refl _ _).drew
          have F_X0 := S7.out.below (Below.refl _ _).drew
          clear HX B4 S7 HR2 HA
          refine wp_region_any (by kernel_rfl) ?_
          change wpAny _ _ _ _ _ _ _ (World.drew _)
          generalize World.drew w4 = X0 at *
          refine wpAny_take (i := 0) (oi := ⟨some 43, _, _, _, _, _⟩) (v := .pointer (some ⟨g, 1, none⟩)) rfl (by kernel_rfl) (by kernel_rfl) (by kernel_rfl) (fun _ _ _ h => h) (Or.inl ⟨by rfl, by intro wx; go_simp⟩) ?_
          try simp only [Act.put, List.setIfInBounds_toArray, List.set_cons_zero, List.set_cons_succ]
          refine wpAny_take (i := 2) (oi := ⟨some 45, _, _, _, _, _⟩) (v := .int .i64 (i : Int)) rfl (by kernel_rfl) (by kernel_rfl) (by kernel_rfl) (fun _ _ _ h => h) (Or.inl ⟨by rfl, by intro wx; go_simp⟩) ?_
          try simp only [Act.put, List.setIfInBounds_toArray, List.set_cons_zero, List.set_cons_succ]
          refine wpAny_take (i := 4) (oi := ⟨some 47, _, _, _, _, _⟩) (v := .pointer (some ⟨g + 1, 1, none⟩)) rfl (by kernel_rfl) (by kernel_rfl) (by kernel_rfl) (fun _ _ _ h => h) (Or.inl ⟨by rfl, by intro wx; go_simp⟩) ?_
          try simp only [Act.put, List.setIfInBounds_toArray, List.set_cons_zero, List.set_cons_succ]
          refine wpAny_take (i := 6) (oi := ⟨some 49, _, _, _, _, _⟩) (v := .int .i64 (k : Int)) rfl (by kernel_rfl) (by kernel_rfl) (by kernel_rfl) (fun _ _ _ h => h) (Or.inl ⟨by rfl, by intro wx; go_simp⟩) ?_
          try simp only [Act.put, List.setIfInBounds_toArray, List.set_cons_zero, List.set_cons_succ]
          refine wpAny_ready (rs := [1, 5]) (by kernel_rfl) (by simp) ?_
          refine AllReady.cons rfl (fun K hK => ?_) (AllReady.cons rfl (fun K hK => ?_) AllReady.nil)
          · refine step_load rfl 36 _ rfl _ rfl (.slice Al za.length kl) (ld_zs (sd1 P_X0.b0)) ?_
            refine hK (Act.put _ (some 44) _) _ ?_
            try simp only [Act.put, List.setIfInBounds_toArray, List.set_cons_zero, List.set_cons_succ]
            clear hK K
            refine wpAny_ready (rs := [3, 5]) (by kernel_rfl) (by simp) ?_
            refine AllReady.cons rfl (fun K hK => ?_) (AllReady.cons rfl (fun K hK => ?_) AllReady.nil)
            · rw [if_pos (by kernel_rfl)]
              refine wp_callT2 _ _ (by go_simp) (rbehind_calls (.slice Al za.length kl) za i X0 P_X0.za (by omega)) ?_
              rintro e V2 ⟨x1, rfl, hx1, hb2⟩
              refine ⟨_, rfl, ?_⟩
              have D_V2 := hx1
              have P_V2 := P_X0.keep hb2
              have F_V2 := F_X0.below hb2
              try dsimp only
              refine hK (Act.put _ (some 46) _) _ ?_
              try simp only [Act.put, List.setIfInBounds_toArray, List.set_cons_zero, List.set_cons_succ]
              clear hK K
              refine wpAny_ready (rs := [5]) (by kernel_rfl) (by simp) ?_
              refine AllReady.cons rfl (fun K hK => ?_) AllReady.nil
              · refine step_load rfl 36 _ rfl _ rfl (.slice Ak zb.length kk) (ld_zs (sd1 P_V2.b1)) ?_
                refine hK (Act.put _ (some 48) _) _ ?_
                try simp only [Act.put, List.setIfInBounds_toArray, List.set_cons_zero, List.set_cons_succ]
                clear hK K
                refine wpAny_ready (rs := [7]) (by kernel_rfl) (by simp) ?_
                refine AllReady.cons rfl (fun K hK => ?_) AllReady.nil
                · rw [if_pos (by kernel_rfl)]
                  refine wp_callT2 _ _ (by go_simp) (rbehind_calls (.slice Ak zb.length kk) zb k V2 P_V2.zb (by omega)) ?_
                  rintro e V4 ⟨x2, rfl, hx2, hb4⟩
                  refine ⟨_, rfl, ?_⟩
                  have E_V4 := hx2
                  have P_V4 := P_V2.keep hb4
                  have F_V4 := F_V2.below hb4
                  have D_V4 := D_V2.below hb4
                  try dsimp only
                  refine hK (Act.put _ (some 50) _) _ ?_
                  try simp only [Act.put, List.setIfInBounds_toArray, List.set_cons_zero, List.set_cons_succ]
                  clear hK K
                  refine wpAny_take (i := 8) (oi := ⟨some 10, _, _, _, _, _⟩) (v := x1) rfl (by kernel_rfl) (by kernel_rfl) (by kernel_rfl) (fun _ _ _ h => h) (Or.inl ⟨by rfl, by intro wx; go_simp⟩) ?_
                  refine wpAny_take (i := 9) (oi := ⟨some 11, _, _, _, _, _⟩) (v := x2) rfl (by kernel_rfl) (by kernel_rfl) (by kernel_rfl) (fun _ _ _ h => h) (Or.inl ⟨by rfl, by intro wx; go_simp⟩) ?_
                  refine wpAny_done (by kernel_rfl) ?_ _
                  go_wp2_with fail
                  go_meet
                  exact Lib.hid ⟨D_V4, E_V4, F_V4, P_V4.bel⟩
            · refine step_load rfl 36 _ rfl _ rfl (.slice Ak zb.length kk) (ld_zs (sd1 P_X0.b1)) ?_
              refine hK (Act.put _ (some 48) _) _ ?_
              try simp only [Act.put, List.setIfInBounds_toArray, List.set_cons_zero, List.set_cons_succ]
              clear hK K
              refine wpAny_ready (rs := [3]) (by kernel_rfl) (by simp) ?_
              refine AllReady.cons rfl (fun K hK => ?_) AllReady.nil
              · rw [if_pos (by kernel_rfl)]
                refine wp_callT2 _ _ (by go_simp) (rbehind_calls (.slice Al za.length kl) za i X0 P_X0.za (by omega)) ?_
                rintro e V6 ⟨x1, rfl, hx1, hb6⟩
                refine ⟨_, rfl, ?_⟩
                have D_V6 := hx1
                have P_V6 := P_X0.keep hb6
                have F_V6 := F_X0.below hb6
                try dsimp only
                refine hK (Act.put _ (some 46) _) _ ?_
                try simp only [Act.put, List.setIfInBounds_toArray, List.set_cons_zero, List.set_cons_succ]
                clear hK K
                refine wpAny_ready (rs := [7]) (by kernel_rfl) (by simp) ?_
                refine AllReady.cons rfl (fun K hK => ?_) AllReady.nil
                · rw [if_pos (by kernel_rfl)]
                  refine wp_callT2 _ _ (by go_simp) (rbehind_calls (.slice Ak zb.length kk) zb k V6 P_V6.zb (by omega)) ?_
                  rintro e V7 ⟨x2, rfl, hx2, hb7⟩
                  refine ⟨_, rfl, ?_⟩
                  have E_V7 := hx2
                  have P_V7 := P_V6.keep hb7
                  have F_V7 := F_V6.below hb7
                  have D_V7 := D_V6.below hb7
                  try dsimp only
                  refine hK (Act.put _ (some 50) _) _ ?_
                  try simp only [Act.put, List.setIfInBounds_toArray, List.set_cons_zero, List.set_cons_succ]
                  clear hK K
                  refine wpAny_take (i := 8) (oi := ⟨some 10, _, _, _, _, _⟩) (v := x1) rfl (by kernel_rfl) (by kernel_rfl) (by kernel_rfl) (fun _ _ _ h => h) (Or.inl ⟨by rfl, by intro wx; go_simp⟩) ?_
                  refine wpAny_take (i := 9) (oi := ⟨some 11, _, _, _, _, _⟩) (v := x2) rfl (by kernel_rfl) (by kernel_rfl) (by kernel_rfl) (fun _ _ _ h => h) (Or.inl ⟨by rfl, by intro wx; go_simp⟩) ?_
                  refine wpAny_done (by kernel_rfl) ?_ _
                  go_wp2_with fail
                  go_meet
                  exact Lib.hid ⟨D_V7, E_V7, F_V7, P_V7.bel⟩
          · refine step_load rfl 36 _ rfl _ rfl (.slice Ak zb.length kk) (ld_zs (sd1 P_X0.b1)) ?_
            refine hK (Act.put _ (some 48) _) _ ?_
            try simp only [Act.put, List.setIfInBounds_toArray, List.set_cons_zero, List.set_cons_succ]
            clear hK K
            refine wpAny_ready (rs := [1]) (by kernel_rfl) (by simp) ?_
            refine AllReady.cons rfl (fun K hK => ?_) AllReady.nil
            · refine step_load rfl 36 _ rfl _ rfl (.slice Al za.length kl) (ld_zs (sd1 P_X0.b0)) ?_
              refine hK (Act.put _ (some 44) _) _ ?_
              try simp only [Act.put, List.setIfInBounds_toArray, List.set_cons_zero, List.set_cons_succ]
              clear hK K
              refine wpAny_ready (rs := [3]) (by kernel_rfl) (by simp) ?_
              refine AllReady.cons rfl (fun K hK => ?_) AllReady.nil
              · rw [if_pos (by kernel_rfl)]
                refine wp_callT2 _ _ (by go_simp) (rbehind_calls (.slice Al za.length kl) za i X0 P_X0.za (by omega)) ?_
                rintro e V10 ⟨x1, rfl, hx1, hb10⟩
                refine ⟨_, rfl, ?_⟩
                have D_V10 := hx1
                have P_V10 := P_X0.keep hb10
                have F_V10 := F_X0.below hb10
                try dsimp only
                refine hK (Act.put _ (some 46) _) _ ?_
                try simp only [Act.put, List.setIfInBounds_toArray, List.set_cons_zero, List.set_cons_succ]
                clear hK K
                refine wpAny_ready (rs := [7]) (by kernel_rfl) (by simp) ?_
                refine AllReady.cons rfl (fun K hK => ?_) AllReady.nil
                · rw [if_pos (by kernel_rfl)]
                  refine wp_callT2 _ _ (by go_simp) (rbehind_calls (.slice Ak zb.length kk) zb k V10 P_V10.zb (by omega)) ?_
                  rintro e V11 ⟨x2, rfl, hx2, hb11⟩
                  refine ⟨_, rfl, ?_⟩
                  have E_V11 := hx2
                  have P_V11 := P_V10.keep hb11
                  have F_V11 := F_V10.below hb11
                  have D_V11 := D_V10.below hb11
                  try dsimp only
                  refine hK (Act.put _ (some 50) _) _ ?_
                  try simp only [Act.put, List.setIfInBounds_toArray, List.set_cons_zero, List.set_cons_succ]
                  clear hK K
                  refine wpAny_take (i := 8) (oi := ⟨some 10, _, _, _, _, _⟩) (v := x1) rfl (by kernel_rfl) (by kernel_rfl) (by kernel_rfl) (fun _ _ _ h => h) (Or.inl ⟨by rfl, by intro wx; go_simp⟩) ?_
                  refine wpAny_take (i := 9) (oi := ⟨some 11, _, _, _, _, _⟩) (v := x2) rfl (by kernel_rfl) (by kernel_rfl) (by kernel_rfl) (fun _ _ _ h => h) (Or.inl ⟨by rfl, by intro wx; go_simp⟩) ?_
                  refine wpAny_done (by kernel_rfl) ?_ _
                  go_wp2_with fail
                  go_meet
                  exact Lib.hid ⟨D_V11, E_V11, F_V11, P_V11.bel⟩
        case rest =>
          rename World => wx
          rename Hid (ZS _ _ _ ∧ _) => CX
          obtain ⟨hx, hy, hs7, hbx⟩ := CX.out
          dsimp only [Int.toNat_natCast] at HR2
          have hxl : (za.drop (i + 1)).length ≤ 40 := by rw [List.length_drop]; omega
          have hyl : (zb.drop (k + 1)).length ≤ 40 := by rw [List.length_drop]; omega
          generalize za.drop (i + 1) = xs at *
          generalize zb.drop (k + 1) = ys at *
          have HRo := Lib.hid HR2.out
          have BX := Lib.hid hbx
          obtain ⟨A1, n1, hv1, _, _, hx1⟩ := hx.cell1
          obtain ⟨A2, n2, hv2, _, _, hx2⟩ := hy.cell1
          subst hv1
          subst hv2
          have ZX := Lib.hid (And.intro hx hy)
          have CXY := Lib.hid (And.intro hx1 hx2)
          have S7 := Lib.hid hs7
          have hrl : rows.length = topN xs ys := by rw [HR2.out, tabL_len]
          have htc := top_cast xs ys
          have htl := top_le xs ys
          obtain ⟨_, _, A7, k7, hv7, _, _, hq7⟩ := hs7
          subst hv7
          have hmx : mx (xs ++ ys) (-1) = mx ys (mx xs (-1)) := mx_app xs ys (-1)
          rw [← hmx] at htc
          have hmg := mx_ge (xs ++ ys) (-1)
          clear hx hy hx1 hx2 hbx CX B4 HX HR2 hmx
          go_wp2_with fail
          obtain ⟨N, hN⟩ : ∃ N, N = xs.length + ys.length := ⟨_, rfl⟩
          go_loopw [12, 13] (fun s12 s13 wr => ∃ (n : Nat), s13 = .int .i64 (n : Int) ∧ n ≤ N ∧ s12 = .int .i64 (mx ((xs ++ ys).take n) (-1)) ∧ wx = wr) (fun _ s13 _ => N - (intOf s13).toNat)
          case atStart => exact ⟨0, rfl, by omega, rfl, rfl⟩
          case round =>
            obtain ⟨n, rfl, hn, rfl, rfl⟩ := hrel
            have q0 : IntKind.i64.wrap ((xs.length : Int) + (ys.length : Int)) = (N : Int) := by rw [IntWalk.i64_in _ (by omega)]; omega
            by_cases hlt : n < N
            · have i1 : decide ((n : Int) < (N : Int)) = true := decide_eq_true (by omega)
              by_cases hlx : n < xs.length
              · have i2 : decide ((n : Int) < (xs.length : Int)) = true := decide_eq_true (by omega)
                obtain ⟨b, o, hA, hr⟩ := CXY.out.1 (by omega)
                subst hA
                have cc := hr n _ (List.getElem?_eq_getElem hlx)
                unfold zI at cc
                have hst := Lib.hid (show mx ((xs ++ ys).take (n + 1)) (-1) = max (mx ((xs ++ ys).take n) (-1)) xs[n] by rw [mx_step _ n (-1) (by rw [List.length_append]; omega), List.getElem_append_left hlx])
                generalize xs[n] = z at *
                generalize mx ((xs ++ ys).take n) (-1) = mm at *
                clear hr
                by_cases hz : mm < z
                · have i3 : decide (mm < z) = true := decide_eq_true hz
                  go_wp2_with fail
                  refine ⟨⟨n + 1, by go_num, by omega, ?_, trivial⟩, by simp [intOf] <;> omega⟩
                  rw [hst.out, show max mm z = z by omega]
                · have i3 : decide (mm < z) = false := decide_eq_false hz
                  go_wp2_with fail
                  refine ⟨⟨n + 1, by go_num, by omega, ?_, trivial⟩, by simp [intOf] <;> omega⟩
                  rw [hst.out, show max mm z = mm by omega]
              · have i2 : decide ((n : Int) < (xs.length : Int)) = false := decide_eq_false (by omega)
                obtain ⟨j, hj⟩ : ∃ j, n = xs.length + j := ⟨n - xs.length, by omega⟩
                have hjy : j < ys.length := by omega
                have q1 : IntKind.i64.wrap ((n : Int) - (xs.length : Int)) = (j : Int) := by rw [IntWalk.i64_in _ (by omega)]; omega
                obtain ⟨b, o, hA, hr⟩ := CXY.out.2 (by omega)
                subst hA
                have cc := hr j _ (List.getElem?_eq_getElem hjy)
                unfold zI at cc
                have hst := Lib.hid (show mx ((xs ++ ys).take (n + 1)) (-1) = max (mx ((xs ++ ys).take n) (-1)) ys[j] by
                  rw [mx_step _ n (-1) (by rw [List.length_append]; omega)]
                  subst hj
                  simp)
                generalize ys[j] = z at *
                generalize mx ((xs ++ ys).take n) (-1) = mm at *
                clear hr
                by_cases hz : mm < z
                · have i3 : decide (mm < z) = true := decide_eq_true hz
                  go_wp2_with fail
                  refine ⟨⟨n + 1, by go_num, by omega, ?_, trivial⟩, by simp [intOf] <;> omega⟩
                  rw [hst.out, show max mm z = z by omega]
                · have i3 : decide (mm < z) = false := decide_eq_false hz
                  go_wp2_with fail
                  refine ⟨⟨n + 1, by go_num, by omega, ?_, trivial⟩, by simp [intOf] <;> omega⟩
                  rw [hst.out, show max mm z = mm by omega]
            · obtain rfl : n = N := by omega
              have t2 : decide ((n : Int) < (n : Int)) = false := decide_eq_false (by omega)
              rw [show (xs ++ ys).take n = xs ++ ys by rw [hN, ← List.length_append, List.take_length]]
              generalize mx (xs ++ ys) (-1) = M at *
              clear hq7
              by_cases h255 : 255 < M
              · have i3 : decide (255 < M) = true := decide_eq_true h255
                have hKi : ((rows.length : Nat) : Int) = 256 := by omega
                clear htc htl hmg hrl hN
                go_wp2_with fail
                clear hKi
                go_loopw [15] (fun s15 wr => ∃ (n : Nat), s15 = .int .i64 (n : Int) ∧ n ≤ rows.length ∧ Hid (Below wx.heap.size wx wr)) (fun s15 _ => rows.length - (intOf s15).toNat)
                case atStart => exact ⟨0, rfl, by omega, Lib.hid (Below.refl _ _)⟩
                case round =>
                  obtain ⟨n, rfl, hn, I⟩ := hrel
                  by_cases hlt : n < rows.length
                  · have i1 : decide ((n : Int) < (rows.length : Int)) = true := decide_eq_true (by omega)
                    have hrow := row_at HRo.out hlt
                    obtain ⟨_, _, _, _, he, _, _, hr⟩ := S7.out.below I.out
                    cases he
                    obtain ⟨b, o, hA, hrr⟩ := hr (by omega)
                    subst hA
                    have r1 := hrr n _ hrow
                    have c0 := ro0 r1
                    have L1 := Lib.hid (ldH (ro1 r1))
                    have HA1 := Lib.hid (lhalf_calls _ xs n m wr (ZX.out.1.below I.out))
                    have HROW := Lib.hid hrow
                    clear hr hrr r1 hrow
                    go_wp2_with (refine wpList_loadg (by rfl) 28 (.tmp 103) (by rfl) _ (by rfl) _ L1.out ?_)
                    refine HA1.out.mono ?_
                    rintro e w5 ⟨rfl, hb5⟩
                    have I5 := Lib.hid (below_up I.out hb5)
                    clear hb5 I c0 L1 HA1
                    obtain ⟨_, _, _, _, he, _, _, hr⟩ := S7.out.below I5.out
                    cases he
                    obtain ⟨b2, o2, hA, hrr⟩ := hr (by omega)
                    cases hA
                    have L2 := Lib.hid (ldH (ro2 (hrr n _ HROW.out)))
                    have HA2 := Lib.hid (lhalf_calls _ ys n m w5 (ZX.out.2.below I5.out))
                    clear hr hrr HROW
                    go_wp2_with (refine wpList_loadg (by rfl) 28 (.tmp 115) (by rfl) _ (by rfl) _ L2.out ?_)
                    refine HA2.out.mono ?_
                    rintro e w6 ⟨rfl, hb6⟩
                    have I6 := Lib.hid (below_up I5.out hb6)
                    clear hb6 I5 L2 HA2
                    go_wp2_with fail
                    go_roundw
                    case rel => exact ⟨n + 1, by go_num, by omega, I6⟩
                    case measure => simp [intOf] <;> omega
                  · obtain rfl : n = rows.length := by omega
                    have t4 : decide ((rows.length : Int) < (rows.length : Int)) = false := decide_eq_false (by omega)
                    have BW := Lib.hid (below_up BX.out I.out)
                    clear I S7 ZX CXY HRo BX
                    go_wp2_with fail
                    refine (HA.out _).mono ?_
                    rintro e wa ⟨rfl, hba⟩
                    have BA := Lib.hid (below_up BW.out hba)
                    clear hba HA
                    go_wp2_with fail
                    go_ret
                    exact ⟨rfl, BA.out⟩
              · have i3 : decide (255 < M) = false := decide_eq_false h255
                have q1 : IntKind.i64.wrap (M + 1) = ((rows.length : Nat) : Int) := by rw [IntWalk.i64_in _ (by omega)]; omega
                clear htc htl hmg hrl hN
                go_wp2_with fail
                go_loopw [15] (fun s15 wr => ∃ (n : Nat), s15 = .int .i64 (n : Int) ∧ n ≤ rows.length ∧ Hid (Below wx.heap.size wx wr)) (fun s15 _ => rows.length - (intOf s15).toNat)
                case atStart => exact ⟨0, rfl, by omega, Lib.hid (Below.refl _ _)⟩
                case round =>
                  obtain ⟨n, rfl, hn, I⟩ := hrel
                  by_cases hlt : n < rows.length
                  · have i1 : decide ((n : Int) < (rows.length : Int)) = true := decide_eq_true (by omega)
                    have hrow := row_at HRo.out hlt
                    obtain ⟨_, _, _, _, he, _, _, hr⟩ := S7.out.below I.out
                    cases he
                    obtain ⟨b, o, hA, hrr⟩ := hr (by omega)
                    subst hA
                    have r1 := hrr n _ hrow
                    have c0 := ro0 r1
                    have L1 := Lib.hid (ldH (ro1 r1))
                    have HA1 := Lib.hid (lhalf_calls _ xs n m wr (ZX.out.1.below I.out))
                    have HROW := Lib.hid hrow
                    clear hr hrr r1 hrow
                    go_wp2_with (refine wpList_loadg (by rfl) 28 (.tmp 103) (by rfl) _ (by rfl) _ L1.out ?_)
                    refine HA1.out.mono ?_
                    rintro e w5 ⟨rfl, hb5⟩
                    have I5 := Lib.hid (below_up I.out hb5)
                    clear hb5 I c0 L1 HA1
                    obtain ⟨_, _, _, _, he, _, _, hr⟩ := S7.out.below I5.out
                    cases he
                    obtain ⟨b2, o2, hA, hrr⟩ := hr (by omega)
                    cases hA
                    have L2 := Lib.hid (ldH (ro2 (hrr n _ HROW.out)))
                    have HA2 := Lib.hid (lhalf_calls _ ys n m w5 (ZX.out.2.below I5.out))
                    clear hr hrr HROW
                    go_wp2_with (refine wpList_loadg (by rfl) 28 (.tmp 115) (by rfl) _ (by rfl) _ L2.out ?_)
                    refine HA2.out.mono ?_
                    rintro e w6 ⟨rfl, hb6⟩
                    have I6 := Lib.hid (below_up I5.out hb6)
                    clear hb6 I5 L2 HA2
                    go_wp2_with fail
                    go_roundw
                    case rel => exact ⟨n + 1, by go_num, by omega, I6⟩
                    case measure => simp [intOf] <;> omega
                  · obtain rfl : n = rows.length := by omega
                    have t4 : decide ((rows.length : Int) < (rows.length : Int)) = false := decide_eq_false (by omega)
                    have BW := Lib.hid (below_up BX.out I.out)
                    clear I S7 ZX CXY HRo BX
                    go_wp2_with fail
                    refine (HA.out _).mono ?_
                    rintro e wa ⟨rfl, hba⟩
                    have BA := Lib.hid (below_up BW.out hba)
                    clear hba HA
                    go_wp2_with fail
                    go_ret
                    exact ⟨rfl, BA.out⟩
end Go.Proofs.YtihdeanfcbiflaaDoor.Wh
