/- The walk of chapter 43's Text. -/
import Derived.Test.YtihdeanfcbiflaaDoorWh
import Derived.Test.YtihdeanfcbiflaaDoorStep
import Derived.Test.YtihdeanfcbiflaaDoorStepB
import Derived.Deep.RegionHeld3
namespace Go.Proofs.YtihdeanfcbiflaaDoor.Wh
open Go.RowKit Go.Proofs.YtihdeanfcbiflaaDoor.Mk Go.Proofs.YtihdeanfcbiflaaDoor.Ul Go.Proofs.YtihdeanfcbiflaaDoor.Wi Go.Proofs.YtihdeanfcbiflaaDoor.Lg
open Go.Proofs.YtihdeanfcbiflaaDoor.Vb (BU Wr)
theorem line_ba (r : Ro) : ba (lineL r) = ba (itoaL r.l) ++ ⟨#[32]⟩ ++ ba (wordsL r.a) ++ ⟨#[32]⟩ ++ ba (wordsL r.b) ++ ⟨#[10]⟩ := by
  unfold lineL
  rw [← ba_append, ← ba_append, ← ba_append, ← ba_append, ← ba_append]
  rfl
theorem bu_new (w : World) : BU w.heap.size w.heap.size none [] (w.alloc (.cells #[.pointer none, .slice none 0 0] 64)) :=
  ⟨.pointer none, .slice none 0 0, .inl rfl, Nat.le_refl _, heap_new _ _, World.ownsRowF_of (World.ownsRow_nil _ _ _ _), rfl⟩
/-- what a round of Text keeps -/
structure TI (B : Nat) (l : List UInt8) (w W : World) : Prop where
  bu : ∃ r, BU B B r (hc l) W
  bel : Below w.heap.size w W
theorem wp_callT {P : Program} {o : Oper} {a : Act} {w : World} {K : Act → World → Prop} {Q : Exit → Act → World → Prop} (f : FuncId) (args : Array Value) (hrun : (execOp a.eval o).run P w = .ok (.enter f args) w) {post : Ending → World → Prop} (hc : Calls P f args w post)
    (h : ∀ e w', post e w' → ∃ v, e = .returned v ∧ K (a.put o.dst v) w') : Oper.wp P o a w K Q := by
  unfold Oper.wp
  rw [hrun, Oper.upon_enter]
  refine hc.mono fun e w' hp => ?_
  obtain ⟨v, rfl, hk⟩ := h e w' hp
  exact hk
structure TR (B g : Nat) (l : List UInt8) (r : Ro) (w W : World) : Prop where
  bu : ∃ rr, BU B B rr (hc l) W
  bx : W.rangeAt g 0 (roC r)
  lt : g < W.heap.size
  i0 : It W r.l
  i1 : It W r.a.c
  i2 : It W r.b.c
  bel : Below w.heap.size w W
theorem TR.keep {B g : Nat} {l : List UInt8} {r : Ro} {w W W' : World} (h : TR B g l r w W) (hb : Below W.heap.size W W') : TR B g l r w W' := by
  obtain ⟨⟨rr, h1⟩, h2, h3, h4, h5, h6, h7⟩ := h
  exact ⟨⟨rr, h1.keepB hb⟩, rg_below h2 h3 hb, Nat.lt_of_lt_of_le h3 hb.size, h4.below hb, h5.below hb, h6.below hb, below_up h7 hb⟩
theorem TR.put {B g : Nat} {l : List UInt8} {r : Ro} {w W W' : World} {s : ByteArray} {rr : Option Nat} (h : TR B g l r w W) (hB : B = w.heap.size) (hu : BU B B rr (hc l) W) {r2 : Option Nat} (h2 : BU B B r2 (hc l ++ hc (bs s)) W') (hw : Wr B rr r2 W W') : TI B (l ++ bs s) w W' :=
  ⟨⟨r2, by have e : hc (l ++ bs s) = hc l ++ hc (bs s) := List.map_append; rw [e]; exact h2⟩, h.bel.trans (hB ▸ hw.below hu)⟩
set_option maxHeartbeats 8000000 in
set_option maxRecDepth 100000 in
theorem text_calls (v : Value) (rs : List Ro) (w : World) (h : SL roC 15 w v rs) (ok : ∀ r ∈ rs, r.Ok) (hn : rs.length ≤ 1000000) (hi : ∀ r ∈ rs, It w r.l ∧ It w r.a.c ∧ It w r.b.c) :
    Calls Tryd.prog 9 #[v] w fun e w' => e = .returned (.string (ba (textL rs))) ∧ Below w.heap.size w w' := by
  have HX := Lib.hid (fun wx (hx : Below w.heap.size w wx) => h.below hx)
  obtain ⟨_, hbd, A, c, rfl, hlc, hcm, _⟩ := h
  have OK := Lib.hid ok
  have HI := Lib.hid hi
  clear ok hi
  obtain ⟨B, hB⟩ : ∃ B, B = w.heap.size := ⟨_, rfl⟩
  have T0 := Lib.hid (show TI B [] w (w.alloc (.cells #[.pointer none, .slice none 0 0] 64)) from ⟨⟨none, by rw [hB]; exact bu_new w⟩, (Below.refl _ _).alloc (Nat.le_refl _) _⟩)
  go_enter Tryd.func9, Tryd.ntmps9
  go_wp2_with fail
  rw [← hB]
  have HB := Lib.hid hB
  clear hB
  go_loopw [8] (fun s8 wr => ∃ (i : Nat), s8 = .int .i64 (i : Int) ∧ i ≤ rs.length ∧ Hid (TI B (textL (rs.take i)) w wr)) (fun s8 _ => rs.length - (intOf s8).toNat)
  case atStart => exact ⟨0, rfl, by omega, T0⟩
  case round =>
    obtain ⟨i, rfl, hil, I⟩ := hrel
    clear T0
    by_cases hlt : i < rs.length
    · obtain ⟨_, _, _, _, he, _, _, hr⟩ := HX.out wr I.out.bel
      cases he
      obtain ⟨b, o, hA, hq⟩ := hr (by omega)
      subst hA
      have hrg := hq i _ (List.getElem?_eq_getElem hlt)
      have i1 : (i : Int) < (rs.length : Int) := by omega
      have LW := Lib.hid (ldR hrg)
      have hok := OK.out rs[i] (List.getElem_mem hlt)
      have hit := HI.out rs[i] (List.getElem_mem hlt)
      have HT := Lib.hid (show textL (rs.take (i + 1)) = textL (rs.take i) ++ lineL rs[i] by rw [List.take_succ_eq_append_getElem hlt, textL_app]; simp [textL])
      have HL := Lib.hid (text_len (rs.take i) (fun r hr => OK.out r (List.mem_of_mem_take hr)))
      rw [List.length_take] at HL
      generalize rs[i] = r at *
      generalize textL (rs.take i) = l at *
      have hba : Below wr.heap.size wr (wr.alloc (rB r)) := (Below.refl _ _).alloc (Nat.le_refl _) _
      have z0 : (ba (itoaL r.l)).size ≤ 20 := by rw [ba_size]; exact itoa_len hok.2.2.1 hok.2.2.2
      have z1 : (ba (wordsL r.a)).size ≤ 118 := by rw [ba_size]; exact words_len hok.1
      have z2 : (ba (wordsL r.b)).size ≤ 118 := by rw [ba_size]; exact words_len hok.2.1
      have HZ := Lib.hid (line_ba r)
      have P1 := Lib.hid (show TR B wr.heap.size l r w (wr.alloc (rB r)) from by
        obtain ⟨⟨rr, h1⟩, h2⟩ := I.out
        exact ⟨⟨rr, h1.keepB hba⟩, rg_rb (heap_new _ _), by simp, hit.1.below (below_up h2 hba), hit.2.1.below (below_up h2 hba), hit.2.2.below (below_up h2 hba), below_up h2 hba⟩)
      have KO := Lib.hid hok
      have IR := Lib.hid (IRo r)
      have OR := Lib.hid (one_ro r)
      have SR := Lib.hid (show (roC ⟨0, ⟨0, false, 0⟩, ⟨0, false, 0⟩⟩).toArray.size = (roC r).toArray.size by rw [List.size_toArray, List.size_toArray, roC_len, roC_len])
      clear hr hq hrg hok hit hba I
      unfold rB at P1
      go_upto_region 5 with (first | (refine wpList_loadg (by rfl) 30 (.tmp 10) (by rfl) _ (by rfl) _ LW.out ?_) | (refine wpList_store_last rfl 30 _ _ rfl _ (roC r).toArray rfl rfl IR.out (by exact SR.out) OR.out ?_))
      obtain ⟨g, hg⟩ : ∃ g, g = wr.heap.size := ⟨_, rfl⟩
      rw [← hg] at P1
      rw [← hg]
      clear hg LW IR OR SR
      generalize World.alloc wr _ = W1 at *
      simp only [Act.put]
      have P_X0 := P1.out.keep (Below.refl _ _).drew
      clear P1
      generalize hs0 : ba (itoaL r.l) = s0 at *
      generalize hs1 : ba (wordsL r.a) = s1 at *
      generalize hs2 : ba (wordsL r.b) = s2 at *
      have Hs := Lib.hid (And.intro hs0 (And.intro hs1 hs2))
      clear hs0 hs1 hs2
      have q1 : ¬ 9223372036854775807 < s0.size + 1 := by omega
      have q2 : ¬ 9223372036854775807 < (s0 ++ ⟨#[32]⟩).size + s1.size := by simp only [ByteArray.size_append, show (⟨#[32]⟩ : ByteArray).size = 1 from rfl]; omega
      have q3 : ¬ 9223372036854775807 < (s0 ++ ⟨#[32]⟩ ++ s1).size + 1 := by simp only [ByteArray.size_append, show (⟨#[32]⟩ : ByteArray).size = 1 from rfl]; omega
      have q4 : ¬ 9223372036854775807 < (s0 ++ ⟨#[32]⟩ ++ s1 ++ ⟨#[32]⟩).size + s2.size := by simp only [ByteArray.size_append, show (⟨#[32]⟩ : ByteArray).size = 1 from rfl]; omega
      have q5 : ¬ 9223372036854775807 < (s0 ++ ⟨#[32]⟩ ++ s1 ++ ⟨#[32]⟩ ++ s2).size + 1 := by simp only [ByteArray.size_append, show (⟨#[32]⟩ : ByteArray).size = 1 from rfl]; omega
      have q2' : s0.size + 1 + s1.size ≤ 9223372036854775807 := by omega
      have q3' : s0.size + 1 + s1.size ≤ 9223372036854775806 := by omega
      have q4' : s0.size + 1 + s1.size + 1 + s2.size ≤ 9223372036854775807 := by omega
      have q5' : s0.size + 1 + s1.size + 1 + s2.size ≤ 9223372036854775806 := by omega
      clear q2 q3 q4 q5
      have q6 : (s0 ++ ⟨#[32]⟩ ++ s1 ++ ⟨#[32]⟩ ++ s2 ++ ⟨#[10]⟩).size ≤ 1000 := by simp only [ByteArray.size_append, show (⟨#[32]⟩ : ByteArray).size = 1 from rfl, show (⟨#[10]⟩ : ByteArray).size = 1 from rfl]; omega
      have Q6 := Lib.hid q6
      clear q6 z0 z1 z2
      have HLL := Lib.hid (show l.length ≤ 300000000 by have := HL.out; omega)
      clear HL
      refine wp_region_any (by kernel_rfl) ?_
      change wpAny _ _ _ _ _ _ _ (World.drew _)
      generalize World.drew W1 = X0 at *
      refine wpAny_take (i := 0) (oi := ⟨some 12, _, _, _, _, _⟩) (v := .pointer (some ⟨g, 0, none⟩)) rfl (by kernel_rfl) (by kernel_rfl) (by kernel_rfl) (fun _ _ _ h => h) (Or.inl ⟨by rfl, by intro wx; go_simp⟩) ?_
      try simp only [Act.put, List.setIfInBounds_toArray, List.set_cons_zero, List.set_cons_succ]
      refine wpAny_take (i := 4) (oi := ⟨some 16, _, _, _, _, _⟩) (v := .pointer (some ⟨g, 1, none⟩)) rfl (by kernel_rfl) (by kernel_rfl) (by kernel_rfl) (fun _ _ _ h => h) (Or.inl ⟨by rfl, by intro wx; go_simp⟩) ?_
      try simp only [Act.put, List.setIfInBounds_toArray, List.set_cons_zero, List.set_cons_succ]
      refine wpAny_take (i := 9) (oi := ⟨some 21, _, _, _, _, _⟩) (v := .pointer (some ⟨g, 8, none⟩)) rfl (by kernel_rfl) (by kernel_rfl) (by kernel_rfl) (fun _ _ _ h => h) (Or.inl ⟨by rfl, by intro wx; go_simp⟩) ?_
      try simp only [Act.put, List.setIfInBounds_toArray, List.set_cons_zero, List.set_cons_succ]
      refine wpAny_ready (rs := [1, 5, 10]) (by kernel_rfl) (by simp) ?_
      refine AllReady.cons rfl (fun K hK => ?_) (AllReady.cons rfl (fun K hK => ?_) (AllReady.cons rfl (fun K hK => ?_) AllReady.nil))
      · refine step_load rfl 3 _ rfl _ rfl (.int .i64 r.l) (ldi (ro0 P_X0.bx)) ?_
        refine hK (Act.put _ (some 13) _) _ ?_
        try simp only [Act.put, List.setIfInBounds_toArray, List.set_cons_zero, List.set_cons_succ]
        clear hK K
        refine wpAny_ready (rs := [2, 5, 10]) (by kernel_rfl) (by simp) ?_
        refine AllReady.cons rfl (fun K hK => ?_) (AllReady.cons rfl (fun K hK => ?_) (AllReady.cons rfl (fun K hK => ?_) AllReady.nil))
        · rw [if_pos (by kernel_rfl)]
          refine wp_callT _ _ (by go_simp) (P_X0.i0 X0 (Below.refl _ _)) ?_
          rintro e V2 ⟨rfl, hb2⟩
          rw [Hs.out.1]
          refine ⟨_, rfl, ?_⟩
          have P_V2 := P_X0.keep hb2
          try dsimp only
          refine hK (Act.put _ (some 14) _) _ ?_
          try simp only [Act.put, List.setIfInBounds_toArray, List.set_cons_zero, List.set_cons_succ]
          clear hK K
          refine wpAny_take (i := 3) (oi := ⟨some 15, _, _, _, _, _⟩) (v := .string (s0 ++ ⟨#[32]⟩)) rfl (by kernel_rfl) (by kernel_rfl) (by kernel_rfl) (fun _ _ _ h => h) (Or.inl ⟨by rfl, by intro wx; go_simp⟩) ?_
          try simp only [Act.put, List.setIfInBounds_toArray, List.set_cons_zero, List.set_cons_succ]
          refine wpAny_ready (rs := [5, 10]) (by kernel_rfl) (by simp) ?_
          refine AllReady.cons rfl (fun K hK => ?_) (AllReady.cons rfl (fun K hK => ?_) AllReady.nil)
          · refine step_load rfl 28 _ rfl _ rfl (.agg (hfC r.a).toArray) (ldH (ro1 P_V2.bx)) ?_
            refine hK (Act.put _ (some 17) _) _ ?_
            try simp only [Act.put, List.setIfInBounds_toArray, List.set_cons_zero, List.set_cons_succ]
            clear hK K
            refine wpAny_ready (rs := [6, 10]) (by kernel_rfl) (by simp) ?_
            refine AllReady.cons rfl (fun K hK => ?_) (AllReady.cons rfl (fun K hK => ?_) AllReady.nil)
            · rw [if_pos (by kernel_rfl)]
              refine wp_callT _ _ (by go_simp) (words_calls r.a KO.out.1 V2 P_V2.i1) ?_
              rintro e V4 ⟨rfl, hb4⟩
              rw [Hs.out.2.1]
              refine ⟨_, rfl, ?_⟩
              have P_V4 := P_V2.keep hb4
              try dsimp only
              refine hK (Act.put _ (some 18) _) _ ?_
              try simp only [Act.put, List.setIfInBounds_toArray, List.set_cons_zero, List.set_cons_succ]
              clear hK K
              refine wpAny_take (i := 7) (oi := ⟨some 19, _, _, _, _, _⟩) (v := .string (s0 ++ ⟨#[32]⟩ ++ s1)) rfl (by kernel_rfl) (by kernel_rfl) (by kernel_rfl) (fun _ _ _ h => h) (Or.inl ⟨by rfl, by intro wx; go_simp⟩) ?_
              try simp only [Act.put, List.setIfInBounds_toArray, List.set_cons_zero, List.set_cons_succ]
              refine wpAny_take (i := 8) (oi := ⟨some 20, _, _, _, _, _⟩) (v := .string (s0 ++ ⟨#[32]⟩ ++ s1 ++ ⟨#[32]⟩)) rfl (by kernel_rfl) (by kernel_rfl) (by kernel_rfl) (fun _ _ _ h => h) (Or.inl ⟨by rfl, by intro wx; go_simp⟩) ?_
              try simp only [Act.put, List.setIfInBounds_toArray, List.set_cons_zero, List.set_cons_succ]
              refine wpAny_ready (rs := [10]) (by kernel_rfl) (by simp) ?_
              refine AllReady.cons rfl (fun K hK => ?_) AllReady.nil
              · refine step_load rfl 28 _ rfl _ rfl (.agg (hfC r.b).toArray) (ldH (ro2 P_V4.bx)) ?_
                refine hK (Act.put _ (some 22) _) _ ?_
                try simp only [Act.put, List.setIfInBounds_toArray, List.set_cons_zero, List.set_cons_succ]
                clear hK K
                refine wpAny_ready (rs := [11]) (by kernel_rfl) (by simp) ?_
                refine AllReady.cons rfl (fun K hK => ?_) AllReady.nil
                · rw [if_pos (by kernel_rfl)]
                  refine wp_callT _ _ (by go_simp) (words_calls r.b KO.out.2.1 V4 P_V4.i2) ?_
                  rintro e V6 ⟨rfl, hb6⟩
                  rw [Hs.out.2.2]
                  refine ⟨_, rfl, ?_⟩
                  have P_V6 := P_V4.keep hb6
                  try dsimp only
                  refine hK (Act.put _ (some 23) _) _ ?_
                  try simp only [Act.put, List.setIfInBounds_toArray, List.set_cons_zero, List.set_cons_succ]
                  clear hK K
                  refine wpAny_take (i := 12) (oi := ⟨some 24, _, _, _, _, _⟩) (v := .string (s0 ++ ⟨#[32]⟩ ++ s1 ++ ⟨#[32]⟩ ++ s2)) rfl (by kernel_rfl) (by kernel_rfl) (by kernel_rfl) (fun _ _ _ h => h) (Or.inl ⟨by rfl, by intro wx; go_simp⟩) ?_
                  try simp only [Act.put, List.setIfInBounds_toArray, List.set_cons_zero, List.set_cons_succ]
                  refine wpAny_take (i := 13) (oi := ⟨some 25, _, _, _, _, _⟩) (v := .string (s0 ++ ⟨#[32]⟩ ++ s1 ++ ⟨#[32]⟩ ++ s2 ++ ⟨#[10]⟩)) rfl (by kernel_rfl) (by kernel_rfl) (by kernel_rfl) (fun _ _ _ h => h) (Or.inl ⟨by rfl, by intro wx; go_simp⟩) ?_
                  try simp only [Act.put, List.setIfInBounds_toArray, List.set_cons_zero, List.set_cons_succ]
                  refine wpAny_ready (rs := [14]) (by kernel_rfl) (by simp) ?_
                  refine AllReady.cons rfl (fun K hK => ?_) AllReady.nil
                  · obtain ⟨rr7, hu7⟩ := P_V6.bu
                    rw [if_pos (by kernel_rfl)]
                    refine wp_callT _ _ (by go_simp) (Vb.write_calls B B rr7 (hc l) (s0 ++ ⟨#[32]⟩ ++ s1 ++ ⟨#[32]⟩ ++ s2 ++ ⟨#[10]⟩) V6 hu7 (by rw [hc_len]; have := Q6.out; have := HLL.out; omega)) ?_
                    rintro e V7 ⟨rfl, r27, h27, hw7⟩
                    refine ⟨_, rfl, ?_⟩
                    have Z7 : TI B (textL (rs.take (i + 1))) w V7 := by
                      rw [HT.out]
                      have h3 := P_V6.put HB.out hu7 h27 hw7
                      rw [← HZ.out, bs_ba] at h3
                      exact h3
                    have P_V7 := Z7
                    try dsimp only
                    refine hK (Act.put _ (some 26) _) _ ?_
                    try simp only [Act.put, List.setIfInBounds_toArray, List.set_cons_zero, List.set_cons_succ]
                    clear hK K
                    refine wpAny_done (by kernel_rfl) ?_ _
                    have PZ := Lib.hid P_V7
                    clear P_V7
                    go_wp2_with fail
                    go_roundw
                    case rel => exact ⟨i + 1, by go_num, by omega, PZ⟩
                    case measure => simp [intOf] <;> omega
            · refine step_load rfl 28 _ rfl _ rfl (.agg (hfC r.b).toArray) (ldH (ro2 P_V2.bx)) ?_
              refine hK (Act.put _ (some 22) _) _ ?_
              try simp only [Act.put, List.setIfInBounds_toArray, List.set_cons_zero, List.set_cons_succ]
              clear hK K
              refine wpAny_ready (rs := [6]) (by kernel_rfl) (by simp) ?_
              refine AllReady.cons rfl (fun K hK => ?_) AllReady.nil
              · rw [if_pos (by kernel_rfl)]
                refine wp_callT _ _ (by go_simp) (words_calls r.a KO.out.1 V2 P_V2.i1) ?_
                rintro e V9 ⟨rfl, hb9⟩
                rw [Hs.out.2.1]
                refine ⟨_, rfl, ?_⟩
                have P_V9 := P_V2.keep hb9
                try dsimp only
                refine hK (Act.put _ (some 18) _) _ ?_
                try simp only [Act.put, List.setIfInBounds_toArray, List.set_cons_zero, List.set_cons_succ]
                clear hK K
                refine wpAny_take (i := 7) (oi := ⟨some 19, _, _, _, _, _⟩) (v := .string (s0 ++ ⟨#[32]⟩ ++ s1)) rfl (by kernel_rfl) (by kernel_rfl) (by kernel_rfl) (fun _ _ _ h => h) (Or.inl ⟨by rfl, by intro wx; go_simp⟩) ?_
                try simp only [Act.put, List.setIfInBounds_toArray, List.set_cons_zero, List.set_cons_succ]
                refine wpAny_take (i := 8) (oi := ⟨some 20, _, _, _, _, _⟩) (v := .string (s0 ++ ⟨#[32]⟩ ++ s1 ++ ⟨#[32]⟩)) rfl (by kernel_rfl) (by kernel_rfl) (by kernel_rfl) (fun _ _ _ h => h) (Or.inl ⟨by rfl, by intro wx; go_simp⟩) ?_
                try simp only [Act.put, List.setIfInBounds_toArray, List.set_cons_zero, List.set_cons_succ]
                refine wpAny_ready (rs := [11]) (by kernel_rfl) (by simp) ?_
                refine AllReady.cons rfl (fun K hK => ?_) AllReady.nil
                · rw [if_pos (by kernel_rfl)]
                  refine wp_callT _ _ (by go_simp) (words_calls r.b KO.out.2.1 V9 P_V9.i2) ?_
                  rintro e V10 ⟨rfl, hb10⟩
                  rw [Hs.out.2.2]
                  refine ⟨_, rfl, ?_⟩
                  have P_V10 := P_V9.keep hb10
                  try dsimp only
                  refine hK (Act.put _ (some 23) _) _ ?_
                  try simp only [Act.put, List.setIfInBounds_toArray, List.set_cons_zero, List.set_cons_succ]
                  clear hK K
                  refine wpAny_take (i := 12) (oi := ⟨some 24, _, _, _, _, _⟩) (v := .string (s0 ++ ⟨#[32]⟩ ++ s1 ++ ⟨#[32]⟩ ++ s2)) rfl (by kernel_rfl) (by kernel_rfl) (by kernel_rfl) (fun _ _ _ h => h) (Or.inl ⟨by rfl, by intro wx; go_simp⟩) ?_
                  try simp only [Act.put, List.setIfInBounds_toArray, List.set_cons_zero, List.set_cons_succ]
                  refine wpAny_take (i := 13) (oi := ⟨some 25, _, _, _, _, _⟩) (v := .string (s0 ++ ⟨#[32]⟩ ++ s1 ++ ⟨#[32]⟩ ++ s2 ++ ⟨#[10]⟩)) rfl (by kernel_rfl) (by kernel_rfl) (by kernel_rfl) (fun _ _ _ h => h) (Or.inl ⟨by rfl, by intro wx; go_simp⟩) ?_
                  try simp only [Act.put, List.setIfInBounds_toArray, List.set_cons_zero, List.set_cons_succ]
                  refine wpAny_ready (rs := [14]) (by kernel_rfl) (by simp) ?_
                  refine AllReady.cons rfl (fun K hK => ?_) AllReady.nil
                  · obtain ⟨rr11, hu11⟩ := P_V10.bu
                    rw [if_pos (by kernel_rfl)]
                    refine wp_callT _ _ (by go_simp) (Vb.write_calls B B rr11 (hc l) (s0 ++ ⟨#[32]⟩ ++ s1 ++ ⟨#[32]⟩ ++ s2 ++ ⟨#[10]⟩) V10 hu11 (by rw [hc_len]; have := Q6.out; have := HLL.out; omega)) ?_
                    rintro e V11 ⟨rfl, r211, h211, hw11⟩
                    refine ⟨_, rfl, ?_⟩
                    have Z11 : TI B (textL (rs.take (i + 1))) w V11 := by
                      rw [HT.out]
                      have h3 := P_V10.put HB.out hu11 h211 hw11
                      rw [← HZ.out, bs_ba] at h3
                      exact h3
                    have P_V11 := Z11
                    try dsimp only
                    refine hK (Act.put _ (some 26) _) _ ?_
                    try simp only [Act.put, List.setIfInBounds_toArray, List.set_cons_zero, List.set_cons_succ]
                    clear hK K
                    refine wpAny_done (by kernel_rfl) ?_ _
                    have PZ := Lib.hid P_V11
                    clear P_V11
                    go_wp2_with fail
                    go_roundw
                    case rel => exact ⟨i + 1, by go_num, by omega, PZ⟩
                    case measure => simp [intOf] <;> omega
          · refine step_load rfl 28 _ rfl _ rfl (.agg (hfC r.b).toArray) (ldH (ro2 P_V2.bx)) ?_
            refine hK (Act.put _ (some 22) _) _ ?_
            try simp only [Act.put, List.setIfInBounds_toArray, List.set_cons_zero, List.set_cons_succ]
            clear hK K
            refine wpAny_ready (rs := [5]) (by kernel_rfl) (by simp) ?_
            refine AllReady.cons rfl (fun K hK => ?_) AllReady.nil
            · refine step_load rfl 28 _ rfl _ rfl (.agg (hfC r.a).toArray) (ldH (ro1 P_V2.bx)) ?_
              refine hK (Act.put _ (some 17) _) _ ?_
              try simp only [Act.put, List.setIfInBounds_toArray, List.set_cons_zero, List.set_cons_succ]
              clear hK K
              refine wpAny_ready (rs := [6]) (by kernel_rfl) (by simp) ?_
              refine AllReady.cons rfl (fun K hK => ?_) AllReady.nil
              · rw [if_pos (by kernel_rfl)]
                refine wp_callT _ _ (by go_simp) (words_calls r.a KO.out.1 V2 P_V2.i1) ?_
                rintro e V14 ⟨rfl, hb14⟩
                rw [Hs.out.2.1]
                refine ⟨_, rfl, ?_⟩
                have P_V14 := P_V2.keep hb14
                try dsimp only
                refine hK (Act.put _ (some 18) _) _ ?_
                try simp only [Act.put, List.setIfInBounds_toArray, List.set_cons_zero, List.set_cons_succ]
                clear hK K
                refine wpAny_take (i := 7) (oi := ⟨some 19, _, _, _, _, _⟩) (v := .string (s0 ++ ⟨#[32]⟩ ++ s1)) rfl (by kernel_rfl) (by kernel_rfl) (by kernel_rfl) (fun _ _ _ h => h) (Or.inl ⟨by rfl, by intro wx; go_simp⟩) ?_
                try simp only [Act.put, List.setIfInBounds_toArray, List.set_cons_zero, List.set_cons_succ]
                refine wpAny_take (i := 8) (oi := ⟨some 20, _, _, _, _, _⟩) (v := .string (s0 ++ ⟨#[32]⟩ ++ s1 ++ ⟨#[32]⟩)) rfl (by kernel_rfl) (by kernel_rfl) (by kernel_rfl) (fun _ _ _ h => h) (Or.inl ⟨by rfl, by intro wx; go_simp⟩) ?_
                try simp only [Act.put, List.setIfInBounds_toArray, List.set_cons_zero, List.set_cons_succ]
                refine wpAny_ready (rs := [11]) (by kernel_rfl) (by simp) ?_
                refine AllReady.cons rfl (fun K hK => ?_) AllReady.nil
                · rw [if_pos (by kernel_rfl)]
                  refine wp_callT _ _ (by go_simp) (words_calls r.b KO.out.2.1 V14 P_V14.i2) ?_
                  rintro e V15 ⟨rfl, hb15⟩
                  rw [Hs.out.2.2]
                  refine ⟨_, rfl, ?_⟩
                  have P_V15 := P_V14.keep hb15
                  try dsimp only
                  refine hK (Act.put _ (some 23) _) _ ?_
                  try simp only [Act.put, List.setIfInBounds_toArray, List.set_cons_zero, List.set_cons_succ]
                  clear hK K
                  refine wpAny_take (i := 12) (oi := ⟨some 24, _, _, _, _, _⟩) (v := .string (s0 ++ ⟨#[32]⟩ ++ s1 ++ ⟨#[32]⟩ ++ s2)) rfl (by kernel_rfl) (by kernel_rfl) (by kernel_rfl) (fun _ _ _ h => h) (Or.inl ⟨by rfl, by intro wx; go_simp⟩) ?_
                  try simp only [Act.put, List.setIfInBounds_toArray, List.set_cons_zero, List.set_cons_succ]
                  refine wpAny_take (i := 13) (oi := ⟨some 25, _, _, _, _, _⟩) (v := .string (s0 ++ ⟨#[32]⟩ ++ s1 ++ ⟨#[32]⟩ ++ s2 ++ ⟨#[10]⟩)) rfl (by kernel_rfl) (by kernel_rfl) (by kernel_rfl) (fun _ _ _ h => h) (Or.inl ⟨by rfl, by intro wx; go_simp⟩) ?_
                  try simp only [Act.put, List.setIfInBounds_toArray, List.set_cons_zero, List.set_cons_succ]
                  refine wpAny_ready (rs := [14]) (by kernel_rfl) (by simp) ?_
                  refine AllReady.cons rfl (fun K hK => ?_) AllReady.nil
                  · obtain ⟨rr16, hu16⟩ := P_V15.bu
                    rw [if_pos (by kernel_rfl)]
                    refine wp_callT _ _ (by go_simp) (Vb.write_calls B B rr16 (hc l) (s0 ++ ⟨#[32]⟩ ++ s1 ++ ⟨#[32]⟩ ++ s2 ++ ⟨#[10]⟩) V15 hu16 (by rw [hc_len]; have := Q6.out; have := HLL.out; omega)) ?_
                    rintro e V16 ⟨rfl, r216, h216, hw16⟩
                    refine ⟨_, rfl, ?_⟩
                    have Z16 : TI B (textL (rs.take (i + 1))) w V16 := by
                      rw [HT.out]
                      have h3 := P_V15.put HB.out hu16 h216 hw16
                      rw [← HZ.out, bs_ba] at h3
                      exact h3
                    have P_V16 := Z16
                    try dsimp only
                    refine hK (Act.put _ (some 26) _) _ ?_
                    try simp only [Act.put, List.setIfInBounds_toArray, List.set_cons_zero, List.set_cons_succ]
                    clear hK K
                    refine wpAny_done (by kernel_rfl) ?_ _
                    have PZ := Lib.hid P_V16
                    clear P_V16
                    go_wp2_with fail
                    go_roundw
                    case rel => exact ⟨i + 1, by go_num, by omega, PZ⟩
                    case measure => simp [intOf] <;> omega
        · refine step_load rfl 28 _ rfl _ rfl (.agg (hfC r.a).toArray) (ldH (ro1 P_X0.bx)) ?_
          refine hK (Act.put _ (some 17) _) _ ?_
          try simp only [Act.put, List.setIfInBounds_toArray, List.set_cons_zero, List.set_cons_succ]
          clear hK K
          refine wpAny_ready (rs := [2, 10]) (by kernel_rfl) (by simp) ?_
          refine AllReady.cons rfl (fun K hK => ?_) (AllReady.cons rfl (fun K hK => ?_) AllReady.nil)
          · rw [if_pos (by kernel_rfl)]
            refine wp_callT _ _ (by go_simp) (P_X0.i0 X0 (Below.refl _ _)) ?_
            rintro e V18 ⟨rfl, hb18⟩
            rw [Hs.out.1]
            refine ⟨_, rfl, ?_⟩
            have P_V18 := P_X0.keep hb18
            try dsimp only
            refine hK (Act.put _ (some 14) _) _ ?_
            try simp only [Act.put, List.setIfInBounds_toArray, List.set_cons_zero, List.set_cons_succ]
            clear hK K
            refine wpAny_take (i := 3) (oi := ⟨some 15, _, _, _, _, _⟩) (v := .string (s0 ++ ⟨#[32]⟩)) rfl (by kernel_rfl) (by kernel_rfl) (by kernel_rfl) (fun _ _ _ h => h) (Or.inl ⟨by rfl, by intro wx; go_simp⟩) ?_
            try simp only [Act.put, List.setIfInBounds_toArray, List.set_cons_zero, List.set_cons_succ]
            refine wpAny_ready (rs := [6, 10]) (by kernel_rfl) (by simp) ?_
            refine AllReady.cons rfl (fun K hK => ?_) (AllReady.cons rfl (fun K hK => ?_) AllReady.nil)
            · rw [if_pos (by kernel_rfl)]
              refine wp_callT _ _ (by go_simp) (words_calls r.a KO.out.1 V18 P_V18.i1) ?_
              rintro e V19 ⟨rfl, hb19⟩
              rw [Hs.out.2.1]
              refine ⟨_, rfl, ?_⟩
              have P_V19 := P_V18.keep hb19
              try dsimp only
              refine hK (Act.put _ (some 18) _) _ ?_
              try simp only [Act.put, List.setIfInBounds_toArray, List.set_cons_zero, List.set_cons_succ]
              clear hK K
              refine wpAny_take (i := 7) (oi := ⟨some 19, _, _, _, _, _⟩) (v := .string (s0 ++ ⟨#[32]⟩ ++ s1)) rfl (by kernel_rfl) (by kernel_rfl) (by kernel_rfl) (fun _ _ _ h => h) (Or.inl ⟨by rfl, by intro wx; go_simp⟩) ?_
              try simp only [Act.put, List.setIfInBounds_toArray, List.set_cons_zero, List.set_cons_succ]
              refine wpAny_take (i := 8) (oi := ⟨some 20, _, _, _, _, _⟩) (v := .string (s0 ++ ⟨#[32]⟩ ++ s1 ++ ⟨#[32]⟩)) rfl (by kernel_rfl) (by kernel_rfl) (by kernel_rfl) (fun _ _ _ h => h) (Or.inl ⟨by rfl, by intro wx; go_simp⟩) ?_
              try simp only [Act.put, List.setIfInBounds_toArray, List.set_cons_zero, List.set_cons_succ]
              refine wpAny_ready (rs := [10]) (by kernel_rfl) (by simp) ?_
              refine AllReady.cons rfl (fun K hK => ?_) AllReady.nil
              · refine step_load rfl 28 _ rfl _ rfl (.agg (hfC r.b).toArray) (ldH (ro2 P_V19.bx)) ?_
                refine hK (Act.put _ (some 22) _) _ ?_
                try simp only [Act.put, List.setIfInBounds_toArray, List.set_cons_zero, List.set_cons_succ]
                clear hK K
                refine wpAny_ready (rs := [11]) (by kernel_rfl) (by simp) ?_
                refine AllReady.cons rfl (fun K hK => ?_) AllReady.nil
                · rw [if_pos (by kernel_rfl)]
                  refine wp_callT _ _ (by go_simp) (words_calls r.b KO.out.2.1 V19 P_V19.i2) ?_
                  rintro e V21 ⟨rfl, hb21⟩
                  rw [Hs.out.2.2]
                  refine ⟨_, rfl, ?_⟩
                  have P_V21 := P_V19.keep hb21
                  try dsimp only
                  refine hK (Act.put _ (some 23) _) _ ?_
                  try simp only [Act.put, List.setIfInBounds_toArray, List.set_cons_zero, List.set_cons_succ]
                  clear hK K
                  refine wpAny_take (i := 12) (oi := ⟨some 24, _, _, _, _, _⟩) (v := .string (s0 ++ ⟨#[32]⟩ ++ s1 ++ ⟨#[32]⟩ ++ s2)) rfl (by kernel_rfl) (by kernel_rfl) (by kernel_rfl) (fun _ _ _ h => h) (Or.inl ⟨by rfl, by intro wx; go_simp⟩) ?_
                  try simp only [Act.put, List.setIfInBounds_toArray, List.set_cons_zero, List.set_cons_succ]
                  refine wpAny_take (i := 13) (oi := ⟨some 25, _, _, _, _, _⟩) (v := .string (s0 ++ ⟨#[32]⟩ ++ s1 ++ ⟨#[32]⟩ ++ s2 ++ ⟨#[10]⟩)) rfl (by kernel_rfl) (by kernel_rfl) (by kernel_rfl) (fun _ _ _ h => h) (Or.inl ⟨by rfl, by intro wx; go_simp⟩) ?_
                  try simp only [Act.put, List.setIfInBounds_toArray, List.set_cons_zero, List.set_cons_succ]
                  refine wpAny_ready (rs := [14]) (by kernel_rfl) (by simp) ?_
                  refine AllReady.cons rfl (fun K hK => ?_) AllReady.nil
                  · obtain ⟨rr22, hu22⟩ := P_V21.bu
                    rw [if_pos (by kernel_rfl)]
                    refine wp_callT _ _ (by go_simp) (Vb.write_calls B B rr22 (hc l) (s0 ++ ⟨#[32]⟩ ++ s1 ++ ⟨#[32]⟩ ++ s2 ++ ⟨#[10]⟩) V21 hu22 (by rw [hc_len]; have := Q6.out; have := HLL.out; omega)) ?_
                    rintro e V22 ⟨rfl, r222, h222, hw22⟩
                    refine ⟨_, rfl, ?_⟩
                    have Z22 : TI B (textL (rs.take (i + 1))) w V22 := by
                      rw [HT.out]
                      have h3 := P_V21.put HB.out hu22 h222 hw22
                      rw [← HZ.out, bs_ba] at h3
                      exact h3
                    have P_V22 := Z22
                    try dsimp only
                    refine hK (Act.put _ (some 26) _) _ ?_
                    try simp only [Act.put, List.setIfInBounds_toArray, List.set_cons_zero, List.set_cons_succ]
                    clear hK K
                    refine wpAny_done (by kernel_rfl) ?_ _
                    have PZ := Lib.hid P_V22
                    clear P_V22
                    go_wp2_with fail
                    go_roundw
                    case rel => exact ⟨i + 1, by go_num, by omega, PZ⟩
                    case measure => simp [intOf] <;> omega
            · refine step_load rfl 28 _ rfl _ rfl (.agg (hfC r.b).toArray) (ldH (ro2 P_V18.bx)) ?_
              refine hK (Act.put _ (some 22) _) _ ?_
              try simp only [Act.put, List.setIfInBounds_toArray, List.set_cons_zero, List.set_cons_succ]
              clear hK K
              refine wpAny_ready (rs := [6]) (by kernel_rfl) (by simp) ?_
              refine AllReady.cons rfl (fun K hK => ?_) AllReady.nil
              · rw [if_pos (by kernel_rfl)]
                refine wp_callT _ _ (by go_simp) (words_calls r.a KO.out.1 V18 P_V18.i1) ?_
                rintro e V24 ⟨rfl, hb24⟩
                rw [Hs.out.2.1]
                refine ⟨_, rfl, ?_⟩
                have P_V24 := P_V18.keep hb24
                try dsimp only
                refine hK (Act.put _ (some 18) _) _ ?_
                try simp only [Act.put, List.setIfInBounds_toArray, List.set_cons_zero, List.set_cons_succ]
                clear hK K
                refine wpAny_take (i := 7) (oi := ⟨some 19, _, _, _, _, _⟩) (v := .string (s0 ++ ⟨#[32]⟩ ++ s1)) rfl (by kernel_rfl) (by kernel_rfl) (by kernel_rfl) (fun _ _ _ h => h) (Or.inl ⟨by rfl, by intro wx; go_simp⟩) ?_
                try simp only [Act.put, List.setIfInBounds_toArray, List.set_cons_zero, List.set_cons_succ]
                refine wpAny_take (i := 8) (oi := ⟨some 20, _, _, _, _, _⟩) (v := .string (s0 ++ ⟨#[32]⟩ ++ s1 ++ ⟨#[32]⟩)) rfl (by kernel_rfl) (by kernel_rfl) (by kernel_rfl) (fun _ _ _ h => h) (Or.inl ⟨by rfl, by intro wx; go_simp⟩) ?_
                try simp only [Act.put, List.setIfInBounds_toArray, List.set_cons_zero, List.set_cons_succ]
                refine wpAny_ready (rs := [11]) (by kernel_rfl) (by simp) ?_
                refine AllReady.cons rfl (fun K hK => ?_) AllReady.nil
                · rw [if_pos (by kernel_rfl)]
                  refine wp_callT _ _ (by go_simp) (words_calls r.b KO.out.2.1 V24 P_V24.i2) ?_
                  rintro e V25 ⟨rfl, hb25⟩
                  rw [Hs.out.2.2]
                  refine ⟨_, rfl, ?_⟩
                  have P_V25 := P_V24.keep hb25
                  try dsimp only
                  refine hK (Act.put _ (some 23) _) _ ?_
                  try simp only [Act.put, List.setIfInBounds_toArray, List.set_cons_zero, List.set_cons_succ]
                  clear hK K
                  refine wpAny_take (i := 12) (oi := ⟨some 24, _, _, _, _, _⟩) (v := .string (s0 ++ ⟨#[32]⟩ ++ s1 ++ ⟨#[32]⟩ ++ s2)) rfl (by kernel_rfl) (by kernel_rfl) (by kernel_rfl) (fun _ _ _ h => h) (Or.inl ⟨by rfl, by intro wx; go_simp⟩) ?_
                  try simp only [Act.put, List.setIfInBounds_toArray, List.set_cons_zero, List.set_cons_succ]
                  refine wpAny_take (i := 13) (oi := ⟨some 25, _, _, _, _, _⟩) (v := .string (s0 ++ ⟨#[32]⟩ ++ s1 ++ ⟨#[32]⟩ ++ s2 ++ ⟨#[10]⟩)) rfl (by kernel_rfl) (by kernel_rfl) (by kernel_rfl) (fun _ _ _ h => h) (Or.inl ⟨by rfl, by intro wx; go_simp⟩) ?_
                  try simp only [Act.put, List.setIfInBounds_toArray, List.set_cons_zero, List.set_cons_succ]
                  refine wpAny_ready (rs := [14]) (by kernel_rfl) (by simp) ?_
                  refine AllReady.cons rfl (fun K hK => ?_) AllReady.nil
                  · obtain ⟨rr26, hu26⟩ := P_V25.bu
                    rw [if_pos (by kernel_rfl)]
                    refine wp_callT _ _ (by go_simp) (Vb.write_calls B B rr26 (hc l) (s0 ++ ⟨#[32]⟩ ++ s1 ++ ⟨#[32]⟩ ++ s2 ++ ⟨#[10]⟩) V25 hu26 (by rw [hc_len]; have := Q6.out; have := HLL.out; omega)) ?_
                    rintro e V26 ⟨rfl, r226, h226, hw26⟩
                    refine ⟨_, rfl, ?_⟩
                    have Z26 : TI B (textL (rs.take (i + 1))) w V26 := by
                      rw [HT.out]
                      have h3 := P_V25.put HB.out hu26 h226 hw26
                      rw [← HZ.out, bs_ba] at h3
                      exact h3
                    have P_V26 := Z26
                    try dsimp only
                    refine hK (Act.put _ (some 26) _) _ ?_
                    try simp only [Act.put, List.setIfInBounds_toArray, List.set_cons_zero, List.set_cons_succ]
                    clear hK K
                    refine wpAny_done (by kernel_rfl) ?_ _
                    have PZ := Lib.hid P_V26
                    clear P_V26
                    go_wp2_with fail
                    go_roundw
                    case rel => exact ⟨i + 1, by go_num, by omega, PZ⟩
                    case measure => simp [intOf] <;> omega
          · refine step_load rfl 28 _ rfl _ rfl (.agg (hfC r.b).toArray) (ldH (ro2 P_X0.bx)) ?_
            refine hK (Act.put _ (some 22) _) _ ?_
            try simp only [Act.put, List.setIfInBounds_toArray, List.set_cons_zero, List.set_cons_succ]
            clear hK K
            refine wpAny_ready (rs := [2]) (by kernel_rfl) (by simp) ?_
            refine AllReady.cons rfl (fun K hK => ?_) AllReady.nil
            · rw [if_pos (by kernel_rfl)]
              refine wp_callT _ _ (by go_simp) (P_X0.i0 X0 (Below.refl _ _)) ?_
              rintro e V28 ⟨rfl, hb28⟩
              rw [Hs.out.1]
              refine ⟨_, rfl, ?_⟩
              have P_V28 := P_X0.keep hb28
              try dsimp only
              refine hK (Act.put _ (some 14) _) _ ?_
              try simp only [Act.put, List.setIfInBounds_toArray, List.set_cons_zero, List.set_cons_succ]
              clear hK K
              refine wpAny_take (i := 3) (oi := ⟨some 15, _, _, _, _, _⟩) (v := .string (s0 ++ ⟨#[32]⟩)) rfl (by kernel_rfl) (by kernel_rfl) (by kernel_rfl) (fun _ _ _ h => h) (Or.inl ⟨by rfl, by intro wx; go_simp⟩) ?_
              try simp only [Act.put, List.setIfInBounds_toArray, List.set_cons_zero, List.set_cons_succ]
              refine wpAny_ready (rs := [6]) (by kernel_rfl) (by simp) ?_
              refine AllReady.cons rfl (fun K hK => ?_) AllReady.nil
              · rw [if_pos (by kernel_rfl)]
                refine wp_callT _ _ (by go_simp) (words_calls r.a KO.out.1 V28 P_V28.i1) ?_
                rintro e V29 ⟨rfl, hb29⟩
                rw [Hs.out.2.1]
                refine ⟨_, rfl, ?_⟩
                have P_V29 := P_V28.keep hb29
                try dsimp only
                refine hK (Act.put _ (some 18) _) _ ?_
                try simp only [Act.put, List.setIfInBounds_toArray, List.set_cons_zero, List.set_cons_succ]
                clear hK K
                refine wpAny_take (i := 7) (oi := ⟨some 19, _, _, _, _, _⟩) (v := .string (s0 ++ ⟨#[32]⟩ ++ s1)) rfl (by kernel_rfl) (by kernel_rfl) (by kernel_rfl) (fun _ _ _ h => h) (Or.inl ⟨by rfl, by intro wx; go_simp⟩) ?_
                try simp only [Act.put, List.setIfInBounds_toArray, List.set_cons_zero, List.set_cons_succ]
                refine wpAny_take (i := 8) (oi := ⟨some 20, _, _, _, _, _⟩) (v := .string (s0 ++ ⟨#[32]⟩ ++ s1 ++ ⟨#[32]⟩)) rfl (by kernel_rfl) (by kernel_rfl) (by kernel_rfl) (fun _ _ _ h => h) (Or.inl ⟨by rfl, by intro wx; go_simp⟩) ?_
                try simp only [Act.put, List.setIfInBounds_toArray, List.set_cons_zero, List.set_cons_succ]
                refine wpAny_ready (rs := [11]) (by kernel_rfl) (by simp) ?_
                refine AllReady.cons rfl (fun K hK => ?_) AllReady.nil
                · rw [if_pos (by kernel_rfl)]
                  refine wp_callT _ _ (by go_simp) (words_calls r.b KO.out.2.1 V29 P_V29.i2) ?_
                  rintro e V30 ⟨rfl, hb30⟩
                  rw [Hs.out.2.2]
                  refine ⟨_, rfl, ?_⟩
                  have P_V30 := P_V29.keep hb30
                  try dsimp only
                  refine hK (Act.put _ (some 23) _) _ ?_
                  try simp only [Act.put, List.setIfInBounds_toArray, List.set_cons_zero, List.set_cons_succ]
                  clear hK K
                  refine wpAny_take (i := 12) (oi := ⟨some 24, _, _, _, _, _⟩) (v := .string (s0 ++ ⟨#[32]⟩ ++ s1 ++ ⟨#[32]⟩ ++ s2)) rfl (by kernel_rfl) (by kernel_rfl) (by kernel_rfl) (fun _ _ _ h => h) (Or.inl ⟨by rfl, by intro wx; go_simp⟩) ?_
                  try simp only [Act.put, List.setIfInBounds_toArray, List.set_cons_zero, List.set_cons_succ]
                  refine wpAny_take (i := 13) (oi := ⟨some 25, _, _, _, _, _⟩) (v := .string (s0 ++ ⟨#[32]⟩ ++ s1 ++ ⟨#[32]⟩ ++ s2 ++ ⟨#[10]⟩)) rfl (by kernel_rfl) (by kernel_rfl) (by kernel_rfl) (fun _ _ _ h => h) (Or.inl ⟨by rfl, by intro wx; go_simp⟩) ?_
                  try simp only [Act.put, List.setIfInBounds_toArray, List.set_cons_zero, List.set_cons_succ]
                  refine wpAny_ready (rs := [14]) (by kernel_rfl) (by simp) ?_
                  refine AllReady.cons rfl (fun K hK => ?_) AllReady.nil
                  · obtain ⟨rr31, hu31⟩ := P_V30.bu
                    rw [if_pos (by kernel_rfl)]
                    refine wp_callT _ _ (by go_simp) (Vb.write_calls B B rr31 (hc l) (s0 ++ ⟨#[32]⟩ ++ s1 ++ ⟨#[32]⟩ ++ s2 ++ ⟨#[10]⟩) V30 hu31 (by rw [hc_len]; have := Q6.out; have := HLL.out; omega)) ?_
                    rintro e V31 ⟨rfl, r231, h231, hw31⟩
                    refine ⟨_, rfl, ?_⟩
                    have Z31 : TI B (textL (rs.take (i + 1))) w V31 := by
                      rw [HT.out]
                      have h3 := P_V30.put HB.out hu31 h231 hw31
                      rw [← HZ.out, bs_ba] at h3
                      exact h3
                    have P_V31 := Z31
                    try dsimp only
                    refine hK (Act.put _ (some 26) _) _ ?_
                    try simp only [Act.put, List.setIfInBounds_toArray, List.set_cons_zero, List.set_cons_succ]
                    clear hK K
                    refine wpAny_done (by kernel_rfl) ?_ _
                    have PZ := Lib.hid P_V31
                    clear P_V31
                    go_wp2_with fail
                    go_roundw
                    case rel => exact ⟨i + 1, by go_num, by omega, PZ⟩
                    case measure => simp [intOf] <;> omega
        · refine step_load rfl 28 _ rfl _ rfl (.agg (hfC r.b).toArray) (ldH (ro2 P_X0.bx)) ?_
          refine hK (Act.put _ (some 22) _) _ ?_
          try simp only [Act.put, List.setIfInBounds_toArray, List.set_cons_zero, List.set_cons_succ]
          clear hK K
          refine wpAny_ready (rs := [2, 5]) (by kernel_rfl) (by simp) ?_
          refine AllReady.cons rfl (fun K hK => ?_) (AllReady.cons rfl (fun K hK => ?_) AllReady.nil)
          · rw [if_pos (by kernel_rfl)]
            refine wp_callT _ _ (by go_simp) (P_X0.i0 X0 (Below.refl _ _)) ?_
            rintro e V33 ⟨rfl, hb33⟩
            rw [Hs.out.1]
            refine ⟨_, rfl, ?_⟩
            have P_V33 := P_X0.keep hb33
            try dsimp only
            refine hK (Act.put _ (some 14) _) _ ?_
            try simp only [Act.put, List.setIfInBounds_toArray, List.set_cons_zero, List.set_cons_succ]
            clear hK K
            refine wpAny_take (i := 3) (oi := ⟨some 15, _, _, _, _, _⟩) (v := .string (s0 ++ ⟨#[32]⟩)) rfl (by kernel_rfl) (by kernel_rfl) (by kernel_rfl) (fun _ _ _ h => h) (Or.inl ⟨by rfl, by intro wx; go_simp⟩) ?_
            try simp only [Act.put, List.setIfInBounds_toArray, List.set_cons_zero, List.set_cons_succ]
            refine wpAny_ready (rs := [5]) (by kernel_rfl) (by simp) ?_
            refine AllReady.cons rfl (fun K hK => ?_) AllReady.nil
            · refine step_load rfl 28 _ rfl _ rfl (.agg (hfC r.a).toArray) (ldH (ro1 P_V33.bx)) ?_
              refine hK (Act.put _ (some 17) _) _ ?_
              try simp only [Act.put, List.setIfInBounds_toArray, List.set_cons_zero, List.set_cons_succ]
              clear hK K
              refine wpAny_ready (rs := [6]) (by kernel_rfl) (by simp) ?_
              refine AllReady.cons rfl (fun K hK => ?_) AllReady.nil
              · rw [if_pos (by kernel_rfl)]
                refine wp_callT _ _ (by go_simp) (words_calls r.a KO.out.1 V33 P_V33.i1) ?_
                rintro e V35 ⟨rfl, hb35⟩
                rw [Hs.out.2.1]
                refine ⟨_, rfl, ?_⟩
                have P_V35 := P_V33.keep hb35
                try dsimp only
                refine hK (Act.put _ (some 18) _) _ ?_
                try simp only [Act.put, List.setIfInBounds_toArray, List.set_cons_zero, List.set_cons_succ]
                clear hK K
                refine wpAny_take (i := 7) (oi := ⟨some 19, _, _, _, _, _⟩) (v := .string (s0 ++ ⟨#[32]⟩ ++ s1)) rfl (by kernel_rfl) (by kernel_rfl) (by kernel_rfl) (fun _ _ _ h => h) (Or.inl ⟨by rfl, by intro wx; go_simp⟩) ?_
                try simp only [Act.put, List.setIfInBounds_toArray, List.set_cons_zero, List.set_cons_succ]
                refine wpAny_take (i := 8) (oi := ⟨some 20, _, _, _, _, _⟩) (v := .string (s0 ++ ⟨#[32]⟩ ++ s1 ++ ⟨#[32]⟩)) rfl (by kernel_rfl) (by kernel_rfl) (by kernel_rfl) (fun _ _ _ h => h) (Or.inl ⟨by rfl, by intro wx; go_simp⟩) ?_
                try simp only [Act.put, List.setIfInBounds_toArray, List.set_cons_zero, List.set_cons_succ]
                refine wpAny_ready (rs := [11]) (by kernel_rfl) (by simp) ?_
                refine AllReady.cons rfl (fun K hK => ?_) AllReady.nil
                · rw [if_pos (by kernel_rfl)]
                  refine wp_callT _ _ (by go_simp) (words_calls r.b KO.out.2.1 V35 P_V35.i2) ?_
                  rintro e V36 ⟨rfl, hb36⟩
                  rw [Hs.out.2.2]
                  refine ⟨_, rfl, ?_⟩
                  have P_V36 := P_V35.keep hb36
                  try dsimp only
                  refine hK (Act.put _ (some 23) _) _ ?_
                  try simp only [Act.put, List.setIfInBounds_toArray, List.set_cons_zero, List.set_cons_succ]
                  clear hK K
                  refine wpAny_take (i := 12) (oi := ⟨some 24, _, _, _, _, _⟩) (v := .string (s0 ++ ⟨#[32]⟩ ++ s1 ++ ⟨#[32]⟩ ++ s2)) rfl (by kernel_rfl) (by kernel_rfl) (by kernel_rfl) (fun _ _ _ h => h) (Or.inl ⟨by rfl, by intro wx; go_simp⟩) ?_
                  try simp only [Act.put, List.setIfInBounds_toArray, List.set_cons_zero, List.set_cons_succ]
                  refine wpAny_take (i := 13) (oi := ⟨some 25, _, _, _, _, _⟩) (v := .string (s0 ++ ⟨#[32]⟩ ++ s1 ++ ⟨#[32]⟩ ++ s2 ++ ⟨#[10]⟩)) rfl (by kernel_rfl) (by kernel_rfl) (by kernel_rfl) (fun _ _ _ h => h) (Or.inl ⟨by rfl, by intro wx; go_simp⟩) ?_
                  try simp only [Act.put, List.setIfInBounds_toArray, List.set_cons_zero, List.set_cons_succ]
                  refine wpAny_ready (rs := [14]) (by kernel_rfl) (by simp) ?_
                  refine AllReady.cons rfl (fun K hK => ?_) AllReady.nil
                  · obtain ⟨rr37, hu37⟩ := P_V36.bu
                    rw [if_pos (by kernel_rfl)]
                    refine wp_callT _ _ (by go_simp) (Vb.write_calls B B rr37 (hc l) (s0 ++ ⟨#[32]⟩ ++ s1 ++ ⟨#[32]⟩ ++ s2 ++ ⟨#[10]⟩) V36 hu37 (by rw [hc_len]; have := Q6.out; have := HLL.out; omega)) ?_
                    rintro e V37 ⟨rfl, r237, h237, hw37⟩
                    refine ⟨_, rfl, ?_⟩
                    have Z37 : TI B (textL (rs.take (i + 1))) w V37 := by
                      rw [HT.out]
                      have h3 := P_V36.put HB.out hu37 h237 hw37
                      rw [← HZ.out, bs_ba] at h3
                      exact h3
                    have P_V37 := Z37
                    try dsimp only
                    refine hK (Act.put _ (some 26) _) _ ?_
                    try simp only [Act.put, List.setIfInBounds_toArray, List.set_cons_zero, List.set_cons_succ]
                    clear hK K
                    refine wpAny_done (by kernel_rfl) ?_ _
                    have PZ := Lib.hid P_V37
                    clear P_V37
                    go_wp2_with fail
                    go_roundw
                    case rel => exact ⟨i + 1, by go_num, by omega, PZ⟩
                    case measure => simp [intOf] <;> omega
          · refine step_load rfl 28 _ rfl _ rfl (.agg (hfC r.a).toArray) (ldH (ro1 P_X0.bx)) ?_
            refine hK (Act.put _ (some 17) _) _ ?_
            try simp only [Act.put, List.setIfInBounds_toArray, List.set_cons_zero, List.set_cons_succ]
            clear hK K
            refine wpAny_ready (rs := [2]) (by kernel_rfl) (by simp) ?_
            refine AllReady.cons rfl (fun K hK => ?_) AllReady.nil
            · rw [if_pos (by kernel_rfl)]
              refine wp_callT _ _ (by go_simp) (P_X0.i0 X0 (Below.refl _ _)) ?_
              rintro e V39 ⟨rfl, hb39⟩
              rw [Hs.out.1]
              refine ⟨_, rfl, ?_⟩
              have P_V39 := P_X0.keep hb39
              try dsimp only
              refine hK (Act.put _ (some 14) _) _ ?_
              try simp only [Act.put, List.setIfInBounds_toArray, List.set_cons_zero, List.set_cons_succ]
              clear hK K
              refine wpAny_take (i := 3) (oi := ⟨some 15, _, _, _, _, _⟩) (v := .string (s0 ++ ⟨#[32]⟩)) rfl (by kernel_rfl) (by kernel_rfl) (by kernel_rfl) (fun _ _ _ h => h) (Or.inl ⟨by rfl, by intro wx; go_simp⟩) ?_
              try simp only [Act.put, List.setIfInBounds_toArray, List.set_cons_zero, List.set_cons_succ]
              refine wpAny_ready (rs := [6]) (by kernel_rfl) (by simp) ?_
              refine AllReady.cons rfl (fun K hK => ?_) AllReady.nil
              · rw [if_pos (by kernel_rfl)]
                refine wp_callT _ _ (by go_simp) (words_calls r.a KO.out.1 V39 P_V39.i1) ?_
                rintro e V40 ⟨rfl, hb40⟩
                rw [Hs.out.2.1]
                refine ⟨_, rfl, ?_⟩
                have P_V40 := P_V39.keep hb40
                try dsimp only
                refine hK (Act.put _ (some 18) _) _ ?_
                try simp only [Act.put, List.setIfInBounds_toArray, List.set_cons_zero, List.set_cons_succ]
                clear hK K
                refine wpAny_take (i := 7) (oi := ⟨some 19, _, _, _, _, _⟩) (v := .string (s0 ++ ⟨#[32]⟩ ++ s1)) rfl (by kernel_rfl) (by kernel_rfl) (by kernel_rfl) (fun _ _ _ h => h) (Or.inl ⟨by rfl, by intro wx; go_simp⟩) ?_
                try simp only [Act.put, List.setIfInBounds_toArray, List.set_cons_zero, List.set_cons_succ]
                refine wpAny_take (i := 8) (oi := ⟨some 20, _, _, _, _, _⟩) (v := .string (s0 ++ ⟨#[32]⟩ ++ s1 ++ ⟨#[32]⟩)) rfl (by kernel_rfl) (by kernel_rfl) (by kernel_rfl) (fun _ _ _ h => h) (Or.inl ⟨by rfl, by intro wx; go_simp⟩) ?_
                try simp only [Act.put, List.setIfInBounds_toArray, List.set_cons_zero, List.set_cons_succ]
                refine wpAny_ready (rs := [11]) (by kernel_rfl) (by simp) ?_
                refine AllReady.cons rfl (fun K hK => ?_) AllReady.nil
                · rw [if_pos (by kernel_rfl)]
                  refine wp_callT _ _ (by go_simp) (words_calls r.b KO.out.2.1 V40 P_V40.i2) ?_
                  rintro e V41 ⟨rfl, hb41⟩
                  rw [Hs.out.2.2]
                  refine ⟨_, rfl, ?_⟩
                  have P_V41 := P_V40.keep hb41
                  try dsimp only
                  refine hK (Act.put _ (some 23) _) _ ?_
                  try simp only [Act.put, List.setIfInBounds_toArray, List.set_cons_zero, List.set_cons_succ]
                  clear hK K
                  refine wpAny_take (i := 12) (oi := ⟨some 24, _, _, _, _, _⟩) (v := .string (s0 ++ ⟨#[32]⟩ ++ s1 ++ ⟨#[32]⟩ ++ s2)) rfl (by kernel_rfl) (by kernel_rfl) (by kernel_rfl) (fun _ _ _ h => h) (Or.inl ⟨by rfl, by intro wx; go_simp⟩) ?_
                  try simp only [Act.put, List.setIfInBounds_toArray, List.set_cons_zero, List.set_cons_succ]
                  refine wpAny_take (i := 13) (oi := ⟨some 25, _, _, _, _, _⟩) (v := .string (s0 ++ ⟨#[32]⟩ ++ s1 ++ ⟨#[32]⟩ ++ s2 ++ ⟨#[10]⟩)) rfl (by kernel_rfl) (by kernel_rfl) (by kernel_rfl) (fun _ _ _ h => h) (Or.inl ⟨by rfl, by intro wx; go_simp⟩) ?_
                  try simp only [Act.put, List.setIfInBounds_toArray, List.set_cons_zero, List.set_cons_succ]
                  refine wpAny_ready (rs := [14]) (by kernel_rfl) (by simp) ?_
                  refine AllReady.cons rfl (fun K hK => ?_) AllReady.nil
                  · obtain ⟨rr42, hu42⟩ := P_V41.bu
                    rw [if_pos (by kernel_rfl)]
                    refine wp_callT _ _ (by go_simp) (Vb.write_calls B B rr42 (hc l) (s0 ++ ⟨#[32]⟩ ++ s1 ++ ⟨#[32]⟩ ++ s2 ++ ⟨#[10]⟩) V41 hu42 (by rw [hc_len]; have := Q6.out; have := HLL.out; omega)) ?_
                    rintro e V42 ⟨rfl, r242, h242, hw42⟩
                    refine ⟨_, rfl, ?_⟩
                    have Z42 : TI B (textL (rs.take (i + 1))) w V42 := by
                      rw [HT.out]
                      have h3 := P_V41.put HB.out hu42 h242 hw42
                      rw [← HZ.out, bs_ba] at h3
                      exact h3
                    have P_V42 := Z42
                    try dsimp only
                    refine hK (Act.put _ (some 26) _) _ ?_
                    try simp only [Act.put, List.setIfInBounds_toArray, List.set_cons_zero, List.set_cons_succ]
                    clear hK K
                    refine wpAny_done (by kernel_rfl) ?_ _
                    have PZ := Lib.hid P_V42
                    clear P_V42
                    go_wp2_with fail
                    go_roundw
                    case rel => exact ⟨i + 1, by go_num, by omega, PZ⟩
                    case measure => simp [intOf] <;> omega
      · refine step_load rfl 28 _ rfl _ rfl (.agg (hfC r.a).toArray) (ldH (ro1 P_X0.bx)) ?_
        refine hK (Act.put _ (some 17) _) _ ?_
        try simp only [Act.put, List.setIfInBounds_toArray, List.set_cons_zero, List.set_cons_succ]
        clear hK K
        refine wpAny_ready (rs := [1, 10]) (by kernel_rfl) (by simp) ?_
        refine AllReady.cons rfl (fun K hK => ?_) (AllReady.cons rfl (fun K hK => ?_) AllReady.nil)
        · refine step_load rfl 3 _ rfl _ rfl (.int .i64 r.l) (ldi (ro0 P_X0.bx)) ?_
          refine hK (Act.put _ (some 13) _) _ ?_
          try simp only [Act.put, List.setIfInBounds_toArray, List.set_cons_zero, List.set_cons_succ]
          clear hK K
          refine wpAny_ready (rs := [2, 10]) (by kernel_rfl) (by simp) ?_
          refine AllReady.cons rfl (fun K hK => ?_) (AllReady.cons rfl (fun K hK => ?_) AllReady.nil)
          · rw [if_pos (by kernel_rfl)]
            refine wp_callT _ _ (by go_simp) (P_X0.i0 X0 (Below.refl _ _)) ?_
            rintro e V45 ⟨rfl, hb45⟩
            rw [Hs.out.1]
            refine ⟨_, rfl, ?_⟩
            have P_V45 := P_X0.keep hb45
            try dsimp only
            refine hK (Act.put _ (some 14) _) _ ?_
            try simp only [Act.put, List.setIfInBounds_toArray, List.set_cons_zero, List.set_cons_succ]
            clear hK K
            refine wpAny_take (i := 3) (oi := ⟨some 15, _, _, _, _, _⟩) (v := .string (s0 ++ ⟨#[32]⟩)) rfl (by kernel_rfl) (by kernel_rfl) (by kernel_rfl) (fun _ _ _ h => h) (Or.inl ⟨by rfl, by intro wx; go_simp⟩) ?_
            try simp only [Act.put, List.setIfInBounds_toArray, List.set_cons_zero, List.set_cons_succ]
            refine wpAny_ready (rs := [6, 10]) (by kernel_rfl) (by simp) ?_
            refine AllReady.cons rfl (fun K hK => ?_) (AllReady.cons rfl (fun K hK => ?_) AllReady.nil)
            · rw [if_pos (by kernel_rfl)]
              refine wp_callT _ _ (by go_simp) (words_calls r.a KO.out.1 V45 P_V45.i1) ?_
              rintro e V46 ⟨rfl, hb46⟩
              rw [Hs.out.2.1]
              refine ⟨_, rfl, ?_⟩
              have P_V46 := P_V45.keep hb46
              try dsimp only
              refine hK (Act.put _ (some 18) _) _ ?_
              try simp only [Act.put, List.setIfInBounds_toArray, List.set_cons_zero, List.set_cons_succ]
              clear hK K
              refine wpAny_take (i := 7) (oi := ⟨some 19, _, _, _, _, _⟩) (v := .string (s0 ++ ⟨#[32]⟩ ++ s1)) rfl (by kernel_rfl) (by kernel_rfl) (by kernel_rfl) (fun _ _ _ h => h) (Or.inl ⟨by rfl, by intro wx; go_simp⟩) ?_
              try simp only [Act.put, List.setIfInBounds_toArray, List.set_cons_zero, List.set_cons_succ]
              refine wpAny_take (i := 8) (oi := ⟨some 20, _, _, _, _, _⟩) (v := .string (s0 ++ ⟨#[32]⟩ ++ s1 ++ ⟨#[32]⟩)) rfl (by kernel_rfl) (by kernel_rfl) (by kernel_rfl) (fun _ _ _ h => h) (Or.inl ⟨by rfl, by intro wx; go_simp⟩) ?_
              try simp only [Act.put, List.setIfInBounds_toArray, List.set_cons_zero, List.set_cons_succ]
              refine wpAny_ready (rs := [10]) (by kernel_rfl) (by simp) ?_
              refine AllReady.cons rfl (fun K hK => ?_) AllReady.nil
              · refine step_load rfl 28 _ rfl _ rfl (.agg (hfC r.b).toArray) (ldH (ro2 P_V46.bx)) ?_
                refine hK (Act.put _ (some 22) _) _ ?_
                try simp only [Act.put, List.setIfInBounds_toArray, List.set_cons_zero, List.set_cons_succ]
                clear hK K
                refine wpAny_ready (rs := [11]) (by kernel_rfl) (by simp) ?_
                refine AllReady.cons rfl (fun K hK => ?_) AllReady.nil
                · rw [if_pos (by kernel_rfl)]
                  refine wp_callT _ _ (by go_simp) (words_calls r.b KO.out.2.1 V46 P_V46.i2) ?_
                  rintro e V48 ⟨rfl, hb48⟩
                  rw [Hs.out.2.2]
                  refine ⟨_, rfl, ?_⟩
                  have P_V48 := P_V46.keep hb48
                  try dsimp only
                  refine hK (Act.put _ (some 23) _) _ ?_
                  try simp only [Act.put, List.setIfInBounds_toArray, List.set_cons_zero, List.set_cons_succ]
                  clear hK K
                  refine wpAny_take (i := 12) (oi := ⟨some 24, _, _, _, _, _⟩) (v := .string (s0 ++ ⟨#[32]⟩ ++ s1 ++ ⟨#[32]⟩ ++ s2)) rfl (by kernel_rfl) (by kernel_rfl) (by kernel_rfl) (fun _ _ _ h => h) (Or.inl ⟨by rfl, by intro wx; go_simp⟩) ?_
                  try simp only [Act.put, List.setIfInBounds_toArray, List.set_cons_zero, List.set_cons_succ]
                  refine wpAny_take (i := 13) (oi := ⟨some 25, _, _, _, _, _⟩) (v := .string (s0 ++ ⟨#[32]⟩ ++ s1 ++ ⟨#[32]⟩ ++ s2 ++ ⟨#[10]⟩)) rfl (by kernel_rfl) (by kernel_rfl) (by kernel_rfl) (fun _ _ _ h => h) (Or.inl ⟨by rfl, by intro wx; go_simp⟩) ?_
                  try simp only [Act.put, List.setIfInBounds_toArray, List.set_cons_zero, List.set_cons_succ]
                  refine wpAny_ready (rs := [14]) (by kernel_rfl) (by simp) ?_
                  refine AllReady.cons rfl (fun K hK => ?_) AllReady.nil
                  · obtain ⟨rr49, hu49⟩ := P_V48.bu
                    rw [if_pos (by kernel_rfl)]
                    refine wp_callT _ _ (by go_simp) (Vb.write_calls B B rr49 (hc l) (s0 ++ ⟨#[32]⟩ ++ s1 ++ ⟨#[32]⟩ ++ s2 ++ ⟨#[10]⟩) V48 hu49 (by rw [hc_len]; have := Q6.out; have := HLL.out; omega)) ?_
                    rintro e V49 ⟨rfl, r249, h249, hw49⟩
                    refine ⟨_, rfl, ?_⟩
                    have Z49 : TI B (textL (rs.take (i + 1))) w V49 := by
                      rw [HT.out]
                      have h3 := P_V48.put HB.out hu49 h249 hw49
                      rw [← HZ.out, bs_ba] at h3
                      exact h3
                    have P_V49 := Z49
                    try dsimp only
                    refine hK (Act.put _ (some 26) _) _ ?_
                    try simp only [Act.put, List.setIfInBounds_toArray, List.set_cons_zero, List.set_cons_succ]
                    clear hK K
                    refine wpAny_done (by kernel_rfl) ?_ _
                    have PZ := Lib.hid P_V49
                    clear P_V49
                    go_wp2_with fail
                    go_roundw
                    case rel => exact ⟨i + 1, by go_num, by omega, PZ⟩
                    case measure => simp [intOf] <;> omega
            · refine step_load rfl 28 _ rfl _ rfl (.agg (hfC r.b).toArray) (ldH (ro2 P_V45.bx)) ?_
              refine hK (Act.put _ (some 22) _) _ ?_
              try simp only [Act.put, List.setIfInBounds_toArray, List.set_cons_zero, List.set_cons_succ]
              clear hK K
              refine wpAny_ready (rs := [6]) (by kernel_rfl) (by simp) ?_
              refine AllReady.cons rfl (fun K hK => ?_) AllReady.nil
              · rw [if_pos (by kernel_rfl)]
                refine wp_callT _ _ (by go_simp) (words_calls r.a KO.out.1 V45 P_V45.i1) ?_
                rintro e V51 ⟨rfl, hb51⟩
                rw [Hs.out.2.1]
                refine ⟨_, rfl, ?_⟩
                have P_V51 := P_V45.keep hb51
                try dsimp only
                refine hK (Act.put _ (some 18) _) _ ?_
                try simp only [Act.put, List.setIfInBounds_toArray, List.set_cons_zero, List.set_cons_succ]
                clear hK K
                refine wpAny_take (i := 7) (oi := ⟨some 19, _, _, _, _, _⟩) (v := .string (s0 ++ ⟨#[32]⟩ ++ s1)) rfl (by kernel_rfl) (by kernel_rfl) (by kernel_rfl) (fun _ _ _ h => h) (Or.inl ⟨by rfl, by intro wx; go_simp⟩) ?_
                try simp only [Act.put, List.setIfInBounds_toArray, List.set_cons_zero, List.set_cons_succ]
                refine wpAny_take (i := 8) (oi := ⟨some 20, _, _, _, _, _⟩) (v := .string (s0 ++ ⟨#[32]⟩ ++ s1 ++ ⟨#[32]⟩)) rfl (by kernel_rfl) (by kernel_rfl) (by kernel_rfl) (fun _ _ _ h => h) (Or.inl ⟨by rfl, by intro wx; go_simp⟩) ?_
                try simp only [Act.put, List.setIfInBounds_toArray, List.set_cons_zero, List.set_cons_succ]
                refine wpAny_ready (rs := [11]) (by kernel_rfl) (by simp) ?_
                refine AllReady.cons rfl (fun K hK => ?_) AllReady.nil
                · rw [if_pos (by kernel_rfl)]
                  refine wp_callT _ _ (by go_simp) (words_calls r.b KO.out.2.1 V51 P_V51.i2) ?_
                  rintro e V52 ⟨rfl, hb52⟩
                  rw [Hs.out.2.2]
                  refine ⟨_, rfl, ?_⟩
                  have P_V52 := P_V51.keep hb52
                  try dsimp only
                  refine hK (Act.put _ (some 23) _) _ ?_
                  try simp only [Act.put, List.setIfInBounds_toArray, List.set_cons_zero, List.set_cons_succ]
                  clear hK K
                  refine wpAny_take (i := 12) (oi := ⟨some 24, _, _, _, _, _⟩) (v := .string (s0 ++ ⟨#[32]⟩ ++ s1 ++ ⟨#[32]⟩ ++ s2)) rfl (by kernel_rfl) (by kernel_rfl) (by kernel_rfl) (fun _ _ _ h => h) (Or.inl ⟨by rfl, by intro wx; go_simp⟩) ?_
                  try simp only [Act.put, List.setIfInBounds_toArray, List.set_cons_zero, List.set_cons_succ]
                  refine wpAny_take (i := 13) (oi := ⟨some 25, _, _, _, _, _⟩) (v := .string (s0 ++ ⟨#[32]⟩ ++ s1 ++ ⟨#[32]⟩ ++ s2 ++ ⟨#[10]⟩)) rfl (by kernel_rfl) (by kernel_rfl) (by kernel_rfl) (fun _ _ _ h => h) (Or.inl ⟨by rfl, by intro wx; go_simp⟩) ?_
                  try simp only [Act.put, List.setIfInBounds_toArray, List.set_cons_zero, List.set_cons_succ]
                  refine wpAny_ready (rs := [14]) (by kernel_rfl) (by simp) ?_
                  refine AllReady.cons rfl (fun K hK => ?_) AllReady.nil
                  · obtain ⟨rr53, hu53⟩ := P_V52.bu
                    rw [if_pos (by kernel_rfl)]
                    refine wp_callT _ _ (by go_simp) (Vb.write_calls B B rr53 (hc l) (s0 ++ ⟨#[32]⟩ ++ s1 ++ ⟨#[32]⟩ ++ s2 ++ ⟨#[10]⟩) V52 hu53 (by rw [hc_len]; have := Q6.out; have := HLL.out; omega)) ?_
                    rintro e V53 ⟨rfl, r253, h253, hw53⟩
                    refine ⟨_, rfl, ?_⟩
                    have Z53 : TI B (textL (rs.take (i + 1))) w V53 := by
                      rw [HT.out]
                      have h3 := P_V52.put HB.out hu53 h253 hw53
                      rw [← HZ.out, bs_ba] at h3
                      exact h3
                    have P_V53 := Z53
                    try dsimp only
                    refine hK (Act.put _ (some 26) _) _ ?_
                    try simp only [Act.put, List.setIfInBounds_toArray, List.set_cons_zero, List.set_cons_succ]
                    clear hK K
                    refine wpAny_done (by kernel_rfl) ?_ _
                    have PZ := Lib.hid P_V53
                    clear P_V53
                    go_wp2_with fail
                    go_roundw
                    case rel => exact ⟨i + 1, by go_num, by omega, PZ⟩
                    case measure => simp [intOf] <;> omega
          · refine step_load rfl 28 _ rfl _ rfl (.agg (hfC r.b).toArray) (ldH (ro2 P_X0.bx)) ?_
            refine hK (Act.put _ (some 22) _) _ ?_
            try simp only [Act.put, List.setIfInBounds_toArray, List.set_cons_zero, List.set_cons_succ]
            clear hK K
            refine wpAny_ready (rs := [2]) (by kernel_rfl) (by simp) ?_
            refine AllReady.cons rfl (fun K hK => ?_) AllReady.nil
            · rw [if_pos (by kernel_rfl)]
              refine wp_callT _ _ (by go_simp) (P_X0.i0 X0 (Below.refl _ _)) ?_
              rintro e V55 ⟨rfl, hb55⟩
              rw [Hs.out.1]
              refine ⟨_, rfl, ?_⟩
              have P_V55 := P_X0.keep hb55
              try dsimp only
              refine hK (Act.put _ (some 14) _) _ ?_
              try simp only [Act.put, List.setIfInBounds_toArray, List.set_cons_zero, List.set_cons_succ]
              clear hK K
              refine wpAny_take (i := 3) (oi := ⟨some 15, _, _, _, _, _⟩) (v := .string (s0 ++ ⟨#[32]⟩)) rfl (by kernel_rfl) (by kernel_rfl) (by kernel_rfl) (fun _ _ _ h => h) (Or.inl ⟨by rfl, by intro wx; go_simp⟩) ?_
              try simp only [Act.put, List.setIfInBounds_toArray, List.set_cons_zero, List.set_cons_succ]
              refine wpAny_ready (rs := [6]) (by kernel_rfl) (by simp) ?_
              refine AllReady.cons rfl (fun K hK => ?_) AllReady.nil
              · rw [if_pos (by kernel_rfl)]
                refine wp_callT _ _ (by go_simp) (words_calls r.a KO.out.1 V55 P_V55.i1) ?_
                rintro e V56 ⟨rfl, hb56⟩
                rw [Hs.out.2.1]
                refine ⟨_, rfl, ?_⟩
                have P_V56 := P_V55.keep hb56
                try dsimp only
                refine hK (Act.put _ (some 18) _) _ ?_
                try simp only [Act.put, List.setIfInBounds_toArray, List.set_cons_zero, List.set_cons_succ]
                clear hK K
                refine wpAny_take (i := 7) (oi := ⟨some 19, _, _, _, _, _⟩) (v := .string (s0 ++ ⟨#[32]⟩ ++ s1)) rfl (by kernel_rfl) (by kernel_rfl) (by kernel_rfl) (fun _ _ _ h => h) (Or.inl ⟨by rfl, by intro wx; go_simp⟩) ?_
                try simp only [Act.put, List.setIfInBounds_toArray, List.set_cons_zero, List.set_cons_succ]
                refine wpAny_take (i := 8) (oi := ⟨some 20, _, _, _, _, _⟩) (v := .string (s0 ++ ⟨#[32]⟩ ++ s1 ++ ⟨#[32]⟩)) rfl (by kernel_rfl) (by kernel_rfl) (by kernel_rfl) (fun _ _ _ h => h) (Or.inl ⟨by rfl, by intro wx; go_simp⟩) ?_
                try simp only [Act.put, List.setIfInBounds_toArray, List.set_cons_zero, List.set_cons_succ]
                refine wpAny_ready (rs := [11]) (by kernel_rfl) (by simp) ?_
                refine AllReady.cons rfl (fun K hK => ?_) AllReady.nil
                · rw [if_pos (by kernel_rfl)]
                  refine wp_callT _ _ (by go_simp) (words_calls r.b KO.out.2.1 V56 P_V56.i2) ?_
                  rintro e V57 ⟨rfl, hb57⟩
                  rw [Hs.out.2.2]
                  refine ⟨_, rfl, ?_⟩
                  have P_V57 := P_V56.keep hb57
                  try dsimp only
                  refine hK (Act.put _ (some 23) _) _ ?_
                  try simp only [Act.put, List.setIfInBounds_toArray, List.set_cons_zero, List.set_cons_succ]
                  clear hK K
                  refine wpAny_take (i := 12) (oi := ⟨some 24, _, _, _, _, _⟩) (v := .string (s0 ++ ⟨#[32]⟩ ++ s1 ++ ⟨#[32]⟩ ++ s2)) rfl (by kernel_rfl) (by kernel_rfl) (by kernel_rfl) (fun _ _ _ h => h) (Or.inl ⟨by rfl, by intro wx; go_simp⟩) ?_
                  try simp only [Act.put, List.setIfInBounds_toArray, List.set_cons_zero, List.set_cons_succ]
                  refine wpAny_take (i := 13) (oi := ⟨some 25, _, _, _, _, _⟩) (v := .string (s0 ++ ⟨#[32]⟩ ++ s1 ++ ⟨#[32]⟩ ++ s2 ++ ⟨#[10]⟩)) rfl (by kernel_rfl) (by kernel_rfl) (by kernel_rfl) (fun _ _ _ h => h) (Or.inl ⟨by rfl, by intro wx; go_simp⟩) ?_
                  try simp only [Act.put, List.setIfInBounds_toArray, List.set_cons_zero, List.set_cons_succ]
                  refine wpAny_ready (rs := [14]) (by kernel_rfl) (by simp) ?_
                  refine AllReady.cons rfl (fun K hK => ?_) AllReady.nil
                  · obtain ⟨rr58, hu58⟩ := P_V57.bu
                    rw [if_pos (by kernel_rfl)]
                    refine wp_callT _ _ (by go_simp) (Vb.write_calls B B rr58 (hc l) (s0 ++ ⟨#[32]⟩ ++ s1 ++ ⟨#[32]⟩ ++ s2 ++ ⟨#[10]⟩) V57 hu58 (by rw [hc_len]; have := Q6.out; have := HLL.out; omega)) ?_
                    rintro e V58 ⟨rfl, r258, h258, hw58⟩
                    refine ⟨_, rfl, ?_⟩
                    have Z58 : TI B (textL (rs.take (i + 1))) w V58 := by
                      rw [HT.out]
                      have h3 := P_V57.put HB.out hu58 h258 hw58
                      rw [← HZ.out, bs_ba] at h3
                      exact h3
                    have P_V58 := Z58
                    try dsimp only
                    refine hK (Act.put _ (some 26) _) _ ?_
                    try simp only [Act.put, List.setIfInBounds_toArray, List.set_cons_zero, List.set_cons_succ]
                    clear hK K
                    refine wpAny_done (by kernel_rfl) ?_ _
                    have PZ := Lib.hid P_V58
                    clear P_V58
                    go_wp2_with fail
                    go_roundw
                    case rel => exact ⟨i + 1, by go_num, by omega, PZ⟩
                    case measure => simp [intOf] <;> omega
        · refine step_load rfl 28 _ rfl _ rfl (.agg (hfC r.b).toArray) (ldH (ro2 P_X0.bx)) ?_
          refine hK (Act.put _ (some 22) _) _ ?_
          try simp only [Act.put, List.setIfInBounds_toArray, List.set_cons_zero, List.set_cons_succ]
          clear hK K
          refine wpAny_ready (rs := [1]) (by kernel_rfl) (by simp) ?_
          refine AllReady.cons rfl (fun K hK => ?_) AllReady.nil
          · refine step_load rfl 3 _ rfl _ rfl (.int .i64 r.l) (ldi (ro0 P_X0.bx)) ?_
            refine hK (Act.put _ (some 13) _) _ ?_
            try simp only [Act.put, List.setIfInBounds_toArray, List.set_cons_zero, List.set_cons_succ]
            clear hK K
            refine wpAny_ready (rs := [2]) (by kernel_rfl) (by simp) ?_
            refine AllReady.cons rfl (fun K hK => ?_) AllReady.nil
            · rw [if_pos (by kernel_rfl)]
              refine wp_callT _ _ (by go_simp) (P_X0.i0 X0 (Below.refl _ _)) ?_
              rintro e V61 ⟨rfl, hb61⟩
              rw [Hs.out.1]
              refine ⟨_, rfl, ?_⟩
              have P_V61 := P_X0.keep hb61
              try dsimp only
              refine hK (Act.put _ (some 14) _) _ ?_
              try simp only [Act.put, List.setIfInBounds_toArray, List.set_cons_zero, List.set_cons_succ]
              clear hK K
              refine wpAny_take (i := 3) (oi := ⟨some 15, _, _, _, _, _⟩) (v := .string (s0 ++ ⟨#[32]⟩)) rfl (by kernel_rfl) (by kernel_rfl) (by kernel_rfl) (fun _ _ _ h => h) (Or.inl ⟨by rfl, by intro wx; go_simp⟩) ?_
              try simp only [Act.put, List.setIfInBounds_toArray, List.set_cons_zero, List.set_cons_succ]
              refine wpAny_ready (rs := [6]) (by kernel_rfl) (by simp) ?_
              refine AllReady.cons rfl (fun K hK => ?_) AllReady.nil
              · rw [if_pos (by kernel_rfl)]
                refine wp_callT _ _ (by go_simp) (words_calls r.a KO.out.1 V61 P_V61.i1) ?_
                rintro e V62 ⟨rfl, hb62⟩
                rw [Hs.out.2.1]
                refine ⟨_, rfl, ?_⟩
                have P_V62 := P_V61.keep hb62
                try dsimp only
                refine hK (Act.put _ (some 18) _) _ ?_
                try simp only [Act.put, List.setIfInBounds_toArray, List.set_cons_zero, List.set_cons_succ]
                clear hK K
                refine wpAny_take (i := 7) (oi := ⟨some 19, _, _, _, _, _⟩) (v := .string (s0 ++ ⟨#[32]⟩ ++ s1)) rfl (by kernel_rfl) (by kernel_rfl) (by kernel_rfl) (fun _ _ _ h => h) (Or.inl ⟨by rfl, by intro wx; go_simp⟩) ?_
                try simp only [Act.put, List.setIfInBounds_toArray, List.set_cons_zero, List.set_cons_succ]
                refine wpAny_take (i := 8) (oi := ⟨some 20, _, _, _, _, _⟩) (v := .string (s0 ++ ⟨#[32]⟩ ++ s1 ++ ⟨#[32]⟩)) rfl (by kernel_rfl) (by kernel_rfl) (by kernel_rfl) (fun _ _ _ h => h) (Or.inl ⟨by rfl, by intro wx; go_simp⟩) ?_
                try simp only [Act.put, List.setIfInBounds_toArray, List.set_cons_zero, List.set_cons_succ]
                refine wpAny_ready (rs := [11]) (by kernel_rfl) (by simp) ?_
                refine AllReady.cons rfl (fun K hK => ?_) AllReady.nil
                · rw [if_pos (by kernel_rfl)]
                  refine wp_callT _ _ (by go_simp) (words_calls r.b KO.out.2.1 V62 P_V62.i2) ?_
                  rintro e V63 ⟨rfl, hb63⟩
                  rw [Hs.out.2.2]
                  refine ⟨_, rfl, ?_⟩
                  have P_V63 := P_V62.keep hb63
                  try dsimp only
                  refine hK (Act.put _ (some 23) _) _ ?_
                  try simp only [Act.put, List.setIfInBounds_toArray, List.set_cons_zero, List.set_cons_succ]
                  clear hK K
                  refine wpAny_take (i := 12) (oi := ⟨some 24, _, _, _, _, _⟩) (v := .string (s0 ++ ⟨#[32]⟩ ++ s1 ++ ⟨#[32]⟩ ++ s2)) rfl (by kernel_rfl) (by kernel_rfl) (by kernel_rfl) (fun _ _ _ h => h) (Or.inl ⟨by rfl, by intro wx; go_simp⟩) ?_
                  try simp only [Act.put, List.setIfInBounds_toArray, List.set_cons_zero, List.set_cons_succ]
                  refine wpAny_take (i := 13) (oi := ⟨some 25, _, _, _, _, _⟩) (v := .string (s0 ++ ⟨#[32]⟩ ++ s1 ++ ⟨#[32]⟩ ++ s2 ++ ⟨#[10]⟩)) rfl (by kernel_rfl) (by kernel_rfl) (by kernel_rfl) (fun _ _ _ h => h) (Or.inl ⟨by rfl, by intro wx; go_simp⟩) ?_
                  try simp only [Act.put, List.setIfInBounds_toArray, List.set_cons_zero, List.set_cons_succ]
                  refine wpAny_ready (rs := [14]) (by kernel_rfl) (by simp) ?_
                  refine AllReady.cons rfl (fun K hK => ?_) AllReady.nil
                  · obtain ⟨rr64, hu64⟩ := P_V63.bu
                    rw [if_pos (by kernel_rfl)]
                    refine wp_callT _ _ (by go_simp) (Vb.write_calls B B rr64 (hc l) (s0 ++ ⟨#[32]⟩ ++ s1 ++ ⟨#[32]⟩ ++ s2 ++ ⟨#[10]⟩) V63 hu64 (by rw [hc_len]; have := Q6.out; have := HLL.out; omega)) ?_
                    rintro e V64 ⟨rfl, r264, h264, hw64⟩
                    refine ⟨_, rfl, ?_⟩
                    have Z64 : TI B (textL (rs.take (i + 1))) w V64 := by
                      rw [HT.out]
                      have h3 := P_V63.put HB.out hu64 h264 hw64
                      rw [← HZ.out, bs_ba] at h3
                      exact h3
                    have P_V64 := Z64
                    try dsimp only
                    refine hK (Act.put _ (some 26) _) _ ?_
                    try simp only [Act.put, List.setIfInBounds_toArray, List.set_cons_zero, List.set_cons_succ]
                    clear hK K
                    refine wpAny_done (by kernel_rfl) ?_ _
                    have PZ := Lib.hid P_V64
                    clear P_V64
                    go_wp2_with fail
                    go_roundw
                    case rel => exact ⟨i + 1, by go_num, by omega, PZ⟩
                    case measure => simp [intOf] <;> omega
      · refine step_load rfl 28 _ rfl _ rfl (.agg (hfC r.b).toArray) (ldH (ro2 P_X0.bx)) ?_
        refine hK (Act.put _ (some 22) _) _ ?_
        try simp only [Act.put, List.setIfInBounds_toArray, List.set_cons_zero, List.set_cons_succ]
        clear hK K
        refine wpAny_ready (rs := [1, 5]) (by kernel_rfl) (by simp) ?_
        refine AllReady.cons rfl (fun K hK => ?_) (AllReady.cons rfl (fun K hK => ?_) AllReady.nil)
        · refine step_load rfl 3 _ rfl _ rfl (.int .i64 r.l) (ldi (ro0 P_X0.bx)) ?_
          refine hK (Act.put _ (some 13) _) _ ?_
          try simp only [Act.put, List.setIfInBounds_toArray, List.set_cons_zero, List.set_cons_succ]
          clear hK K
          refine wpAny_ready (rs := [2, 5]) (by kernel_rfl) (by simp) ?_
          refine AllReady.cons rfl (fun K hK => ?_) (AllReady.cons rfl (fun K hK => ?_) AllReady.nil)
          · rw [if_pos (by kernel_rfl)]
            refine wp_callT _ _ (by go_simp) (P_X0.i0 X0 (Below.refl _ _)) ?_
            rintro e V67 ⟨rfl, hb67⟩
            rw [Hs.out.1]
            refine ⟨_, rfl, ?_⟩
            have P_V67 := P_X0.keep hb67
            try dsimp only
            refine hK (Act.put _ (some 14) _) _ ?_
            try simp only [Act.put, List.setIfInBounds_toArray, List.set_cons_zero, List.set_cons_succ]
            clear hK K
            refine wpAny_take (i := 3) (oi := ⟨some 15, _, _, _, _, _⟩) (v := .string (s0 ++ ⟨#[32]⟩)) rfl (by kernel_rfl) (by kernel_rfl) (by kernel_rfl) (fun _ _ _ h => h) (Or.inl ⟨by rfl, by intro wx; go_simp⟩) ?_
            try simp only [Act.put, List.setIfInBounds_toArray, List.set_cons_zero, List.set_cons_succ]
            refine wpAny_ready (rs := [5]) (by kernel_rfl) (by simp) ?_
            refine AllReady.cons rfl (fun K hK => ?_) AllReady.nil
            · refine step_load rfl 28 _ rfl _ rfl (.agg (hfC r.a).toArray) (ldH (ro1 P_V67.bx)) ?_
              refine hK (Act.put _ (some 17) _) _ ?_
              try simp only [Act.put, List.setIfInBounds_toArray, List.set_cons_zero, List.set_cons_succ]
              clear hK K
              refine wpAny_ready (rs := [6]) (by kernel_rfl) (by simp) ?_
              refine AllReady.cons rfl (fun K hK => ?_) AllReady.nil
              · rw [if_pos (by kernel_rfl)]
                refine wp_callT _ _ (by go_simp) (words_calls r.a KO.out.1 V67 P_V67.i1) ?_
                rintro e V69 ⟨rfl, hb69⟩
                rw [Hs.out.2.1]
                refine ⟨_, rfl, ?_⟩
                have P_V69 := P_V67.keep hb69
                try dsimp only
                refine hK (Act.put _ (some 18) _) _ ?_
                try simp only [Act.put, List.setIfInBounds_toArray, List.set_cons_zero, List.set_cons_succ]
                clear hK K
                refine wpAny_take (i := 7) (oi := ⟨some 19, _, _, _, _, _⟩) (v := .string (s0 ++ ⟨#[32]⟩ ++ s1)) rfl (by kernel_rfl) (by kernel_rfl) (by kernel_rfl) (fun _ _ _ h => h) (Or.inl ⟨by rfl, by intro wx; go_simp⟩) ?_
                try simp only [Act.put, List.setIfInBounds_toArray, List.set_cons_zero, List.set_cons_succ]
                refine wpAny_take (i := 8) (oi := ⟨some 20, _, _, _, _, _⟩) (v := .string (s0 ++ ⟨#[32]⟩ ++ s1 ++ ⟨#[32]⟩)) rfl (by kernel_rfl) (by kernel_rfl) (by kernel_rfl) (fun _ _ _ h => h) (Or.inl ⟨by rfl, by intro wx; go_simp⟩) ?_
                try simp only [Act.put, List.setIfInBounds_toArray, List.set_cons_zero, List.set_cons_succ]
                refine wpAny_ready (rs := [11]) (by kernel_rfl) (by simp) ?_
                refine AllReady.cons rfl (fun K hK => ?_) AllReady.nil
                · rw [if_pos (by kernel_rfl)]
                  refine wp_callT _ _ (by go_simp) (words_calls r.b KO.out.2.1 V69 P_V69.i2) ?_
                  rintro e V70 ⟨rfl, hb70⟩
                  rw [Hs.out.2.2]
                  refine ⟨_, rfl, ?_⟩
                  have P_V70 := P_V69.keep hb70
                  try dsimp only
                  refine hK (Act.put _ (some 23) _) _ ?_
                  try simp only [Act.put, List.setIfInBounds_toArray, List.set_cons_zero, List.set_cons_succ]
                  clear hK K
                  refine wpAny_take (i := 12) (oi := ⟨some 24, _, _, _, _, _⟩) (v := .string (s0 ++ ⟨#[32]⟩ ++ s1 ++ ⟨#[32]⟩ ++ s2)) rfl (by kernel_rfl) (by kernel_rfl) (by kernel_rfl) (fun _ _ _ h => h) (Or.inl ⟨by rfl, by intro wx; go_simp⟩) ?_
                  try simp only [Act.put, List.setIfInBounds_toArray, List.set_cons_zero, List.set_cons_succ]
                  refine wpAny_take (i := 13) (oi := ⟨some 25, _, _, _, _, _⟩) (v := .string (s0 ++ ⟨#[32]⟩ ++ s1 ++ ⟨#[32]⟩ ++ s2 ++ ⟨#[10]⟩)) rfl (by kernel_rfl) (by kernel_rfl) (by kernel_rfl) (fun _ _ _ h => h) (Or.inl ⟨by rfl, by intro wx; go_simp⟩) ?_
                  try simp only [Act.put, List.setIfInBounds_toArray, List.set_cons_zero, List.set_cons_succ]
                  refine wpAny_ready (rs := [14]) (by kernel_rfl) (by simp) ?_
                  refine AllReady.cons rfl (fun K hK => ?_) AllReady.nil
                  · obtain ⟨rr71, hu71⟩ := P_V70.bu
                    rw [if_pos (by kernel_rfl)]
                    refine wp_callT _ _ (by go_simp) (Vb.write_calls B B rr71 (hc l) (s0 ++ ⟨#[32]⟩ ++ s1 ++ ⟨#[32]⟩ ++ s2 ++ ⟨#[10]⟩) V70 hu71 (by rw [hc_len]; have := Q6.out; have := HLL.out; omega)) ?_
                    rintro e V71 ⟨rfl, r271, h271, hw71⟩
                    refine ⟨_, rfl, ?_⟩
                    have Z71 : TI B (textL (rs.take (i + 1))) w V71 := by
                      rw [HT.out]
                      have h3 := P_V70.put HB.out hu71 h271 hw71
                      rw [← HZ.out, bs_ba] at h3
                      exact h3
                    have P_V71 := Z71
                    try dsimp only
                    refine hK (Act.put _ (some 26) _) _ ?_
                    try simp only [Act.put, List.setIfInBounds_toArray, List.set_cons_zero, List.set_cons_succ]
                    clear hK K
                    refine wpAny_done (by kernel_rfl) ?_ _
                    have PZ := Lib.hid P_V71
                    clear P_V71
                    go_wp2_with fail
                    go_roundw
                    case rel => exact ⟨i + 1, by go_num, by omega, PZ⟩
                    case measure => simp [intOf] <;> omega
          · refine step_load rfl 28 _ rfl _ rfl (.agg (hfC r.a).toArray) (ldH (ro1 P_X0.bx)) ?_
            refine hK (Act.put _ (some 17) _) _ ?_
            try simp only [Act.put, List.setIfInBounds_toArray, List.set_cons_zero, List.set_cons_succ]
            clear hK K
            refine wpAny_ready (rs := [2]) (by kernel_rfl) (by simp) ?_
            refine AllReady.cons rfl (fun K hK => ?_) AllReady.nil
            · rw [if_pos (by kernel_rfl)]
              refine wp_callT _ _ (by go_simp) (P_X0.i0 X0 (Below.refl _ _)) ?_
              rintro e V73 ⟨rfl, hb73⟩
              rw [Hs.out.1]
              refine ⟨_, rfl, ?_⟩
              have P_V73 := P_X0.keep hb73
              try dsimp only
              refine hK (Act.put _ (some 14) _) _ ?_
              try simp only [Act.put, List.setIfInBounds_toArray, List.set_cons_zero, List.set_cons_succ]
              clear hK K
              refine wpAny_take (i := 3) (oi := ⟨some 15, _, _, _, _, _⟩) (v := .string (s0 ++ ⟨#[32]⟩)) rfl (by kernel_rfl) (by kernel_rfl) (by kernel_rfl) (fun _ _ _ h => h) (Or.inl ⟨by rfl, by intro wx; go_simp⟩) ?_
              try simp only [Act.put, List.setIfInBounds_toArray, List.set_cons_zero, List.set_cons_succ]
              refine wpAny_ready (rs := [6]) (by kernel_rfl) (by simp) ?_
              refine AllReady.cons rfl (fun K hK => ?_) AllReady.nil
              · rw [if_pos (by kernel_rfl)]
                refine wp_callT _ _ (by go_simp) (words_calls r.a KO.out.1 V73 P_V73.i1) ?_
                rintro e V74 ⟨rfl, hb74⟩
                rw [Hs.out.2.1]
                refine ⟨_, rfl, ?_⟩
                have P_V74 := P_V73.keep hb74
                try dsimp only
                refine hK (Act.put _ (some 18) _) _ ?_
                try simp only [Act.put, List.setIfInBounds_toArray, List.set_cons_zero, List.set_cons_succ]
                clear hK K
                refine wpAny_take (i := 7) (oi := ⟨some 19, _, _, _, _, _⟩) (v := .string (s0 ++ ⟨#[32]⟩ ++ s1)) rfl (by kernel_rfl) (by kernel_rfl) (by kernel_rfl) (fun _ _ _ h => h) (Or.inl ⟨by rfl, by intro wx; go_simp⟩) ?_
                try simp only [Act.put, List.setIfInBounds_toArray, List.set_cons_zero, List.set_cons_succ]
                refine wpAny_take (i := 8) (oi := ⟨some 20, _, _, _, _, _⟩) (v := .string (s0 ++ ⟨#[32]⟩ ++ s1 ++ ⟨#[32]⟩)) rfl (by kernel_rfl) (by kernel_rfl) (by kernel_rfl) (fun _ _ _ h => h) (Or.inl ⟨by rfl, by intro wx; go_simp⟩) ?_
                try simp only [Act.put, List.setIfInBounds_toArray, List.set_cons_zero, List.set_cons_succ]
                refine wpAny_ready (rs := [11]) (by kernel_rfl) (by simp) ?_
                refine AllReady.cons rfl (fun K hK => ?_) AllReady.nil
                · rw [if_pos (by kernel_rfl)]
                  refine wp_callT _ _ (by go_simp) (words_calls r.b KO.out.2.1 V74 P_V74.i2) ?_
                  rintro e V75 ⟨rfl, hb75⟩
                  rw [Hs.out.2.2]
                  refine ⟨_, rfl, ?_⟩
                  have P_V75 := P_V74.keep hb75
                  try dsimp only
                  refine hK (Act.put _ (some 23) _) _ ?_
                  try simp only [Act.put, List.setIfInBounds_toArray, List.set_cons_zero, List.set_cons_succ]
                  clear hK K
                  refine wpAny_take (i := 12) (oi := ⟨some 24, _, _, _, _, _⟩) (v := .string (s0 ++ ⟨#[32]⟩ ++ s1 ++ ⟨#[32]⟩ ++ s2)) rfl (by kernel_rfl) (by kernel_rfl) (by kernel_rfl) (fun _ _ _ h => h) (Or.inl ⟨by rfl, by intro wx; go_simp⟩) ?_
                  try simp only [Act.put, List.setIfInBounds_toArray, List.set_cons_zero, List.set_cons_succ]
                  refine wpAny_take (i := 13) (oi := ⟨some 25, _, _, _, _, _⟩) (v := .string (s0 ++ ⟨#[32]⟩ ++ s1 ++ ⟨#[32]⟩ ++ s2 ++ ⟨#[10]⟩)) rfl (by kernel_rfl) (by kernel_rfl) (by kernel_rfl) (fun _ _ _ h => h) (Or.inl ⟨by rfl, by intro wx; go_simp⟩) ?_
                  try simp only [Act.put, List.setIfInBounds_toArray, List.set_cons_zero, List.set_cons_succ]
                  refine wpAny_ready (rs := [14]) (by kernel_rfl) (by simp) ?_
                  refine AllReady.cons rfl (fun K hK => ?_) AllReady.nil
                  · obtain ⟨rr76, hu76⟩ := P_V75.bu
                    rw [if_pos (by kernel_rfl)]
                    refine wp_callT _ _ (by go_simp) (Vb.write_calls B B rr76 (hc l) (s0 ++ ⟨#[32]⟩ ++ s1 ++ ⟨#[32]⟩ ++ s2 ++ ⟨#[10]⟩) V75 hu76 (by rw [hc_len]; have := Q6.out; have := HLL.out; omega)) ?_
                    rintro e V76 ⟨rfl, r276, h276, hw76⟩
                    refine ⟨_, rfl, ?_⟩
                    have Z76 : TI B (textL (rs.take (i + 1))) w V76 := by
                      rw [HT.out]
                      have h3 := P_V75.put HB.out hu76 h276 hw76
                      rw [← HZ.out, bs_ba] at h3
                      exact h3
                    have P_V76 := Z76
                    try dsimp only
                    refine hK (Act.put _ (some 26) _) _ ?_
                    try simp only [Act.put, List.setIfInBounds_toArray, List.set_cons_zero, List.set_cons_succ]
                    clear hK K
                    refine wpAny_done (by kernel_rfl) ?_ _
                    have PZ := Lib.hid P_V76
                    clear P_V76
                    go_wp2_with fail
                    go_roundw
                    case rel => exact ⟨i + 1, by go_num, by omega, PZ⟩
                    case measure => simp [intOf] <;> omega
        · refine step_load rfl 28 _ rfl _ rfl (.agg (hfC r.a).toArray) (ldH (ro1 P_X0.bx)) ?_
          refine hK (Act.put _ (some 17) _) _ ?_
          try simp only [Act.put, List.setIfInBounds_toArray, List.set_cons_zero, List.set_cons_succ]
          clear hK K
          refine wpAny_ready (rs := [1]) (by kernel_rfl) (by simp) ?_
          refine AllReady.cons rfl (fun K hK => ?_) AllReady.nil
          · refine step_load rfl 3 _ rfl _ rfl (.int .i64 r.l) (ldi (ro0 P_X0.bx)) ?_
            refine hK (Act.put _ (some 13) _) _ ?_
            try simp only [Act.put, List.setIfInBounds_toArray, List.set_cons_zero, List.set_cons_succ]
            clear hK K
            refine wpAny_ready (rs := [2]) (by kernel_rfl) (by simp) ?_
            refine AllReady.cons rfl (fun K hK => ?_) AllReady.nil
            · rw [if_pos (by kernel_rfl)]
              refine wp_callT _ _ (by go_simp) (P_X0.i0 X0 (Below.refl _ _)) ?_
              rintro e V79 ⟨rfl, hb79⟩
              rw [Hs.out.1]
              refine ⟨_, rfl, ?_⟩
              have P_V79 := P_X0.keep hb79
              try dsimp only
              refine hK (Act.put _ (some 14) _) _ ?_
              try simp only [Act.put, List.setIfInBounds_toArray, List.set_cons_zero, List.set_cons_succ]
              clear hK K
              refine wpAny_take (i := 3) (oi := ⟨some 15, _, _, _, _, _⟩) (v := .string (s0 ++ ⟨#[32]⟩)) rfl (by kernel_rfl) (by kernel_rfl) (by kernel_rfl) (fun _ _ _ h => h) (Or.inl ⟨by rfl, by intro wx; go_simp⟩) ?_
              try simp only [Act.put, List.setIfInBounds_toArray, List.set_cons_zero, List.set_cons_succ]
              refine wpAny_ready (rs := [6]) (by kernel_rfl) (by simp) ?_
              refine AllReady.cons rfl (fun K hK => ?_) AllReady.nil
              · rw [if_pos (by kernel_rfl)]
                refine wp_callT _ _ (by go_simp) (words_calls r.a KO.out.1 V79 P_V79.i1) ?_
                rintro e V80 ⟨rfl, hb80⟩
                rw [Hs.out.2.1]
                refine ⟨_, rfl, ?_⟩
                have P_V80 := P_V79.keep hb80
                try dsimp only
                refine hK (Act.put _ (some 18) _) _ ?_
                try simp only [Act.put, List.setIfInBounds_toArray, List.set_cons_zero, List.set_cons_succ]
                clear hK K
                refine wpAny_take (i := 7) (oi := ⟨some 19, _, _, _, _, _⟩) (v := .string (s0 ++ ⟨#[32]⟩ ++ s1)) rfl (by kernel_rfl) (by kernel_rfl) (by kernel_rfl) (fun _ _ _ h => h) (Or.inl ⟨by rfl, by intro wx; go_simp⟩) ?_
                try simp only [Act.put, List.setIfInBounds_toArray, List.set_cons_zero, List.set_cons_succ]
                refine wpAny_take (i := 8) (oi := ⟨some 20, _, _, _, _, _⟩) (v := .string (s0 ++ ⟨#[32]⟩ ++ s1 ++ ⟨#[32]⟩)) rfl (by kernel_rfl) (by kernel_rfl) (by kernel_rfl) (fun _ _ _ h => h) (Or.inl ⟨by rfl, by intro wx; go_simp⟩) ?_
                try simp only [Act.put, List.setIfInBounds_toArray, List.set_cons_zero, List.set_cons_succ]
                refine wpAny_ready (rs := [11]) (by kernel_rfl) (by simp) ?_
                refine AllReady.cons rfl (fun K hK => ?_) AllReady.nil
                · rw [if_pos (by kernel_rfl)]
                  refine wp_callT _ _ (by go_simp) (words_calls r.b KO.out.2.1 V80 P_V80.i2) ?_
                  rintro e V81 ⟨rfl, hb81⟩
                  rw [Hs.out.2.2]
                  refine ⟨_, rfl, ?_⟩
                  have P_V81 := P_V80.keep hb81
                  try dsimp only
                  refine hK (Act.put _ (some 23) _) _ ?_
                  try simp only [Act.put, List.setIfInBounds_toArray, List.set_cons_zero, List.set_cons_succ]
                  clear hK K
                  refine wpAny_take (i := 12) (oi := ⟨some 24, _, _, _, _, _⟩) (v := .string (s0 ++ ⟨#[32]⟩ ++ s1 ++ ⟨#[32]⟩ ++ s2)) rfl (by kernel_rfl) (by kernel_rfl) (by kernel_rfl) (fun _ _ _ h => h) (Or.inl ⟨by rfl, by intro wx; go_simp⟩) ?_
                  try simp only [Act.put, List.setIfInBounds_toArray, List.set_cons_zero, List.set_cons_succ]
                  refine wpAny_take (i := 13) (oi := ⟨some 25, _, _, _, _, _⟩) (v := .string (s0 ++ ⟨#[32]⟩ ++ s1 ++ ⟨#[32]⟩ ++ s2 ++ ⟨#[10]⟩)) rfl (by kernel_rfl) (by kernel_rfl) (by kernel_rfl) (fun _ _ _ h => h) (Or.inl ⟨by rfl, by intro wx; go_simp⟩) ?_
                  try simp only [Act.put, List.setIfInBounds_toArray, List.set_cons_zero, List.set_cons_succ]
                  refine wpAny_ready (rs := [14]) (by kernel_rfl) (by simp) ?_
                  refine AllReady.cons rfl (fun K hK => ?_) AllReady.nil
                  · obtain ⟨rr82, hu82⟩ := P_V81.bu
                    rw [if_pos (by kernel_rfl)]
                    refine wp_callT _ _ (by go_simp) (Vb.write_calls B B rr82 (hc l) (s0 ++ ⟨#[32]⟩ ++ s1 ++ ⟨#[32]⟩ ++ s2 ++ ⟨#[10]⟩) V81 hu82 (by rw [hc_len]; have := Q6.out; have := HLL.out; omega)) ?_
                    rintro e V82 ⟨rfl, r282, h282, hw82⟩
                    refine ⟨_, rfl, ?_⟩
                    have Z82 : TI B (textL (rs.take (i + 1))) w V82 := by
                      rw [HT.out]
                      have h3 := P_V81.put HB.out hu82 h282 hw82
                      rw [← HZ.out, bs_ba] at h3
                      exact h3
                    have P_V82 := Z82
                    try dsimp only
                    refine hK (Act.put _ (some 26) _) _ ?_
                    try simp only [Act.put, List.setIfInBounds_toArray, List.set_cons_zero, List.set_cons_succ]
                    clear hK K
                    refine wpAny_done (by kernel_rfl) ?_ _
                    have PZ := Lib.hid P_V82
                    clear P_V82
                    go_wp2_with fail
                    go_roundw
                    case rel => exact ⟨i + 1, by go_num, by omega, PZ⟩
                    case measure => simp [intOf] <;> omega
    · obtain rfl : i = rs.length := by omega
      rw [List.take_length] at I
      have t2 : decide ((rs.length : Int) < (rs.length : Int)) = false := decide_eq_false (by omega)
      obtain ⟨⟨rr, hu⟩, hbe⟩ := I.out
      have HS := Lib.hid (Vb.string_calls B B rr _ wr hu)
      have BE := Lib.hid (And.intro hbe hu)
      clear hu hbe I
      go_wp2_with fail
      refine HS.out.mono ?_
      rintro e w5 ⟨rfl, hu5, hw5⟩
      have B5 := Lib.hid (BE.out.1.trans (HB.out ▸ hw5.below BE.out.2))
      clear hu5 hw5
      go_wp2_with fail
      go_ret
      exact ⟨rfl, B5.out⟩
end Go.Proofs.YtihdeanfcbiflaaDoor.Wh
