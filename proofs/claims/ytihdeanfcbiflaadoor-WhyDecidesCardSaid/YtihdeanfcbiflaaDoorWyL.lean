/- The walk of chapter 43's law WhyDecides. -/
import Derived.Test.YtihdeanfcbiflaaDoorWyD
import Derived.Test.YtihdeanfcbiflaaDoorWhA
import Derived.Deep.DeepCutAuto
namespace Go.Proofs.YtihdeanfcbiflaaDoor.Wh
open Go.RowKit Go.Proofs.YtihdeanfcbiflaaDoor.Mk Go.Proofs.YtihdeanfcbiflaaDoor.Ul Go.Proofs.YtihdeanfcbiflaaDoor.Wi Go.Proofs.YtihdeanfcbiflaaDoor.Lg Go.Proofs.YtihdeanfcbiflaaDoor.Up Go.Proofs.YtihdeanfcbiflaaDoor.Sc
def o4 (vi vl vj vk : Value) : Obj := .cells #[vi, vl, vj, vk] 46 (0, 0)
theorem ldL {w : World} {g : Nat} {vi vl vj vk : Value} (h : w.heap[g]? = some (o4 vi vl vj vk)) : (Instr.loadAt 38 (.pointer (some ⟨g, 0, none⟩))).run Tryd.prog w = .ok (.agg #[vi, vl]) w := by
  have := run_loadAt_mid (P := Tryd.prog) w g 0 38 [vi, vl] _ (fun j v hv => by rw [cell_of_row _ _ _ _ _ _ h]; match j, hv with | 0, hv => exact hv | 1, hv => exact hv) USd2 rfl (by kernel_rfl)
  exact this
theorem ldR4 {w : World} {g : Nat} {vi vl vj vk : Value} (h : w.heap[g]? = some (o4 vi vl vj vk)) : (Instr.loadAt 38 (.pointer (some ⟨g, 2, none⟩))).run Tryd.prog w = .ok (.agg #[vj, vk]) w := by
  have := run_loadAt_mid (P := Tryd.prog) w g 2 38 [vj, vk] _ (fun j v hv => by rw [cell_of_row _ _ _ _ _ _ h]; match j, hv with | 0, hv => exact hv | 1, hv => exact hv) USd2 rfl (by kernel_rfl)
  exact this
theorem ld_b2 {w : World} {a : Addr} {b : Bool} (hc : w.cell? a = some (.bool b)) : (Instr.loadAt 4 (.pointer (some a))).run Tryd.prog w = .ok (.bool b) w := by go_simp
theorem eq_S0 {o : Oper} {a : Act} {w : World} {x y : Operand} {t : TypeId} (ho : o.op = .binOp .eql 49 x y t) (hx : a.eval x = vSc 0 0) (hy : a.eval y = vSc 0 0) : (execOp a.eval o).run Tryd.prog w = .ok (.value (.bool true)) w := by
  have e1 := eqSc (V := 0) (L := 0) (V' := 0) (L' := 0) (Nat.pow_pos (by decide)) (Nat.pow_pos (by decide)) w
  rw [show eqS 0 0 0 0 = true from by decide] at e1
  have e2 := eqScg 0 0 0 0 w x y
  unfold execOp
  simp only [ho, hx, hy, Sem.run_bind, e1, e2, Result.andThen_ok, Sem.run_pure]
/-- the two greatest, and the two sides -/
def LX (gx a7 a8 : Nat) (sa sb : Obj) (X Y : Nat) : List (Nat × Obj) := [(gx + 1, nB Y), (gx, nB X), (a8, sb), (a7, sa)]
section
variable {gx a7 a8 X Y : Nat} {sa sb : Obj} {w W : World}
theorem LX.x (h : SQ (LX gx a7 a8 sa sb X Y) w W) : W.heap[gx]? = some (nB X) := SQ.a1 h
theorem LX.y (h : SQ (LX gx a7 a8 sa sb X Y) w W) : W.heap[gx + 1]? = some (nB Y) := SQ.a0 h
theorem LX.a (h : SQ (LX gx a7 a8 sa sb X Y) w W) : W.heap[a7]? = some sa := SQ.a3 h
theorem LX.b (h : SQ (LX gx a7 a8 sa sb X Y) w W) : W.heap[a8]? = some sb := SQ.a2 h
theorem LX.putX (h : SQ (LX gx a7 a8 sa sb X Y) w W) (hg : (w.heap.size ≤ a7 ∧ w.heap.size ≤ a8) ∧ a7 < gx ∧ a8 < gx) (Z : Nat) : SQ (LX gx a7 a8 sa sb Z Y) w (W.setRow gx (FC 5 (lb Z)).toArray) :=
  SQ.swap (SQ.put (SQ.swap h) (by omega) (by
    intro p hp
    simp only [List.mem_cons, List.not_mem_nil, or_false] at hp
    rcases hp with rfl | rfl | rfl <;> simp only <;> omega))
theorem LX.putY (h : SQ (LX gx a7 a8 sa sb X Y) w W) (hg : (w.heap.size ≤ a7 ∧ w.heap.size ≤ a8) ∧ a7 < gx ∧ a8 < gx) (Z : Nat) : SQ (LX gx a7 a8 sa sb X Z) w (W.setRow (gx + 1) (FC 5 (lb Z)).toArray) :=
  SQ.put h (by omega) (by
    intro p hp
    simp only [List.mem_cons, List.not_mem_nil, or_false] at hp
    rcases hp with rfl | rfl | rfl <;> simp only <;> omega)
end
set_option maxHeartbeats 16000000 in
set_option maxRecDepth 100000 in
theorem lawDecides_calls (vi vl vj vk vr : Value) (ia ib : List (List UInt8)) (za zb : List Int) (m : Int) (rows : List Ro) (w : World) (ha : SD w (.agg #[vi, vl]) ia za) (hb : SD w (.agg #[vj, vk]) ib zb) (hr : SL roC 15 w vr rows) (ok : ∀ r ∈ rows, r.Ok) :
    Calls Tryd.prog 5 #[.agg #[vi, vl, vj, vk], .int .i64 m, vr] w fun e w' => e = .returned (.bool true) ∧ Below w.heap.size w w' := by
  have HA := Lib.hid (fun wx => awake_calls wx)
  have HXs := Lib.hid (show ∀ wx, Below w.heap.size w wx → SD wx (.agg #[vi, vl]) ia za ∧ SD wx (.agg #[vj, vk]) ib zb from fun wx hx => ⟨ha.below hx, hb.below hx⟩)
  have HXr := Lib.hid (show ∀ wx, Below w.heap.size w wx → SL roC 15 wx vr rows from fun wx hx => hr.below hx)
  have OK := Lib.hid ok
  obtain ⟨_, _, e1, h1, h2⟩ := ha
  cases e1
  obtain ⟨_, _, e2, h3, h4⟩ := hb
  cases e2
  have hza := Lib.hid (And.intro h2.len1 h4.len1)
  obtain ⟨_, hbd, A, c, rfl, hlc, hcm, _⟩ := hr
  obtain ⟨_, _, Ai, ki, rfl, _, _, _⟩ := h1
  obtain ⟨_, _, Aj, kj, rfl, _, _, _⟩ := h3
  obtain ⟨Al, kl, rfl, _, _, _⟩ := h2.cell1
  obtain ⟨Ak, kk, rfl, _, _, _⟩ := h4.cell1
  clear h2 h4 ok
  have S_W0 := (SQ.new w (o4 (.slice Ai ia.length ki) (.slice Al za.length kl) (.slice Aj ib.length kj) (.slice Ak zb.length kk))).drew
  go_enter Tryd.func5, Tryd.ntmps5
  go_upto_region 1 with fail
  unfold o4 at S_W0
  generalize World.alloc w _ = W at *
  go_cut [7, 8] (fun s7 s8 wx => ∃ a7 a8, s7 = .pointer (some ⟨a7, 0, none⟩) ∧ s8 = .pointer (some ⟨a8, 0, none⟩) ∧ Hid (SQ [(a8, sdB (.slice Aj ib.length kj) (.slice Ak zb.length kk)), (a7, sdB (.slice Ai ia.length ki) (.slice Al za.length kl))] w wx ∧ w.heap.size ≤ a7 ∧ w.heap.size ≤ a8))
  case first =>
    refine wp_region_held_drew (S := SQ [(w.heap.size, o4 (.slice Ai ia.length ki) (.slice Al za.length kl) (.slice Aj ib.length kj) (.slice Ak zb.length kk))] w) (by kernel_rfl) S_W0 (fun hHeld => ?_)
    generalize World.drew W = W0 at *
    clear hHeld HA HXs HXr OK hza
    refine wpAnyH_take (i := 0) (oi := ⟨some 16, _, _, _, _, _⟩) (v := .pointer (some ⟨w.heap.size, 0, none⟩)) rfl (by kernel_rfl) (by kernel_rfl) (by kernel_rfl) (fun _ _ _ h => h) (Or.inl ⟨by rfl, by intro wx _; go_simp⟩) (by assumption) ?_
    try simp only [Act.put, List.setIfInBounds_toArray, List.set_cons_zero, List.set_cons_succ]
    refine wpAnyH_take (i := 1) (oi := ⟨some 17, _, _, _, _, _⟩) (v := .agg #[.slice Ai ia.length ki, .slice Al za.length kl]) rfl (by kernel_rfl) (by kernel_rfl) (by kernel_rfl) (fun _ _ _ h => h) (yield_load (by rfl) (by rfl) (by rfl) (fun wx hx => ldL hx.a0)) (by assumption) ?_
    try simp only [Act.put, List.setIfInBounds_toArray, List.set_cons_zero, List.set_cons_succ]
    refine wpAnyH_take (i := 2) (oi := ⟨some 18, _, _, _, _, _⟩) (v := .pointer (some ⟨w.heap.size, 2, none⟩)) rfl (by kernel_rfl) (by kernel_rfl) (by kernel_rfl) (fun _ _ _ h => h) (Or.inl ⟨by rfl, by intro wx _; go_simp⟩) (by assumption) ?_
    try simp only [Act.put, List.setIfInBounds_toArray, List.set_cons_zero, List.set_cons_succ]
    refine wpAnyH_take (i := 3) (oi := ⟨some 19, _, _, _, _, _⟩) (v := .agg #[.slice Aj ib.length kj, .slice Ak zb.length kk]) rfl (by kernel_rfl) (by kernel_rfl) (by kernel_rfl) (fun _ _ _ h => h) (yield_load (by rfl) (by rfl) (by rfl) (fun wx hx => ldR4 hx.a0)) (by assumption) ?_
    try simp only [Act.put, List.setIfInBounds_toArray, List.set_cons_zero, List.set_cons_succ]
    refine wpAnyH_ready (rs := [4, 5]) (by kernel_rfl) (by simp) ?_
    refine AllReadyH.cons rfl (fun K hK => ?_) (AllReadyH.cons rfl (fun K hK => ?_) AllReadyH.nil)
    · go_simp
      generalize hW1 : World.alloc W0 _ = V1
      have hb1 : Below W0.heap.size W0 V1 := by rw [← hW1]; exact bl1 _ _
      have G_V1 : V1.heap[W0.heap.size]? = some (sdB (.slice none 0 0) (.slice none 0 0)) := by rw [← hW1]; exact heap_new _ _
      have hz1 : W0.heap.size < V1.heap.size := (Array.getElem?_eq_some_iff.1 G_V1).1
      have hg0 : w.heap.size < W0.heap.size := (Array.getElem?_eq_some_iff.1 S_W0.a0).1
      clear hW1
      have S_V1 := S_W0.keep hb1
      try dsimp only
      refine hK.out _ _ S_V1 (fun _ => ?_)
      clear hK K
      refine wpAnyH_ready (rs := [5]) (by kernel_rfl) (by simp) ?_
      refine AllReadyH.cons rfl (fun K hK => ?_) AllReadyH.nil
      · go_simp
        generalize hW2 : World.alloc V1 _ = V2
        have hb2 : Below V1.heap.size V1 V2 := by rw [← hW2]; exact bl1 _ _
        have K_V2 : V2.heap[V1.heap.size]? = some (sdB (.slice none 0 0) (.slice none 0 0)) := by rw [← hW2]; exact heap_new _ _
        have hz2 : V1.heap.size < V2.heap.size := (Array.getElem?_eq_some_iff.1 K_V2).1
        have hk0 : w.heap.size < V1.heap.size := (Array.getElem?_eq_some_iff.1 S_V1.a0).1
        clear hW2
        have S_V2 := S_V1.keep hb2
        have G_V2 := (hb2.block _ (Array.getElem?_eq_some_iff.1 G_V1).1).trans G_V1
        try dsimp only
        refine hK.out _ _ S_V2 (fun _ => ?_)
        clear hK K
        refine wpAnyH_ready (rs := [6]) (by kernel_rfl) (by simp) ?_
        refine AllReadyH.cons rfl (fun K hK => ?_) AllReadyH.nil
        · refine step_store rfl 38 _ _ rfl _ rfl (.agg #[.slice Ai ia.length ki, .slice Al za.length kl]) rfl _ (run_storeAt_row (cells := #[.slice Ai ia.length ki, .slice Al za.length kl]) G_V2 (by show _ = some 2; kernel_rfl) rfl (by simp [Value.oneCell'])) ?_
          generalize hW3 : World.setRow V2 _ _ = V3
          have S_V3 := hW3 ▸ S_V2.row (by omega) (by intro p hp; simp at hp; rw [hp]; simp only; omega)
          have G_V3 := hW3 ▸ setRow_heap _ _ _ _ _ _ G_V2
          have K_V3 := hW3 ▸ (setRow_other _ _ _ _ (by omega)).trans K_V2
          try dsimp only
          refine hK.out _ _ S_V3 (fun _ => ?_)
          clear hK K
          refine wpAnyH_ready (rs := [7]) (by kernel_rfl) (by simp) ?_
          refine AllReadyH.cons rfl (fun K hK => ?_) AllReadyH.nil
          · refine step_store rfl 38 _ _ rfl _ rfl (.agg #[.slice Aj ib.length kj, .slice Ak zb.length kk]) rfl _ (run_storeAt_row (cells := #[.slice Aj ib.length kj, .slice Ak zb.length kk]) K_V3 (by show _ = some 2; kernel_rfl) rfl (by simp [Value.oneCell'])) ?_
            generalize hW4 : World.setRow V3 _ _ = V4
            have S_V4 := hW4 ▸ S_V3.row (by omega) (by intro p hp; simp at hp; rw [hp]; simp only; omega)
            have G_V4 := hW4 ▸ (setRow_other _ _ _ _ (by omega)).trans G_V3
            have K_V4 := hW4 ▸ setRow_heap _ _ _ _ _ _ K_V3
            try dsimp only
            refine hK.out _ _ S_V4 (fun _ => ?_)
            clear hK K
            refine wpAnyH_done (by kernel_rfl) ?_ _
            go_wp2_with fail
            go_meet
            exact ⟨_, _, rfl, rfl, Lib.hid ⟨(S_V4.tail.add G_V4).add K_V4, by omega, by omega⟩⟩
    · go_simp
      generalize hW5 : World.alloc W0 _ = V5
      have hb5 : Below W0.heap.size W0 V5 := by rw [← hW5]; exact bl1 _ _
      have K_V5 : V5.heap[W0.heap.size]? = some (sdB (.slice none 0 0) (.slice none 0 0)) := by rw [← hW5]; exact heap_new _ _
      have hz5 : W0.heap.size < V5.heap.size := (Array.getElem?_eq_some_iff.1 K_V5).1
      have hk0 : w.heap.size < W0.heap.size := (Array.getElem?_eq_some_iff.1 S_W0.a0).1
      clear hW5
      have S_V5 := S_W0.keep hb5
      try dsimp only
      refine hK.out _ _ S_V5 (fun _ => ?_)
      clear hK K
      refine wpAnyH_ready (rs := [4]) (by kernel_rfl) (by simp) ?_
      refine AllReadyH.cons rfl (fun K hK => ?_) AllReadyH.nil
      · go_simp
        generalize hW6 : World.alloc V5 _ = V6
        have hb6 : Below V5.heap.size V5 V6 := by rw [← hW6]; exact bl1 _ _
        have G_V6 : V6.heap[V5.heap.size]? = some (sdB (.slice none 0 0) (.slice none 0 0)) := by rw [← hW6]; exact heap_new _ _
        have hz6 : V5.heap.size < V6.heap.size := (Array.getElem?_eq_some_iff.1 G_V6).1
        have hg0 : w.heap.size < V5.heap.size := (Array.getElem?_eq_some_iff.1 S_V5.a0).1
        clear hW6
        have S_V6 := S_V5.keep hb6
        have K_V6 := (hb6.block _ (Array.getElem?_eq_some_iff.1 K_V5).1).trans K_V5
        try dsimp only
        refine hK.out _ _ S_V6 (fun _ => ?_)
        clear hK K
        refine wpAnyH_ready (rs := [6]) (by kernel_rfl) (by simp) ?_
        refine AllReadyH.cons rfl (fun K hK => ?_) AllReadyH.nil
        · refine step_store rfl 38 _ _ rfl _ rfl (.agg #[.slice Ai ia.length ki, .slice Al za.length kl]) rfl _ (run_storeAt_row (cells := #[.slice Ai ia.length ki, .slice Al za.length kl]) G_V6 (by show _ = some 2; kernel_rfl) rfl (by simp [Value.oneCell'])) ?_
          generalize hW7 : World.setRow V6 _ _ = V7
          have S_V7 := hW7 ▸ S_V6.row (by omega) (by intro p hp; simp at hp; rw [hp]; simp only; omega)
          have K_V7 := hW7 ▸ (setRow_other _ _ _ _ (by omega)).trans K_V6
          have G_V7 := hW7 ▸ setRow_heap _ _ _ _ _ _ G_V6
          try dsimp only
          refine hK.out _ _ S_V7 (fun _ => ?_)
          clear hK K
          refine wpAnyH_ready (rs := [7]) (by kernel_rfl) (by simp) ?_
          refine AllReadyH.cons rfl (fun K hK => ?_) AllReadyH.nil
          · refine step_store rfl 38 _ _ rfl _ rfl (.agg #[.slice Aj ib.length kj, .slice Ak zb.length kk]) rfl _ (run_storeAt_row (cells := #[.slice Aj ib.length kj, .slice Ak zb.length kk]) K_V7 (by show _ = some 2; kernel_rfl) rfl (by simp [Value.oneCell'])) ?_
            generalize hW8 : World.setRow V7 _ _ = V8
            have S_V8 := hW8 ▸ S_V7.row (by omega) (by intro p hp; simp at hp; rw [hp]; simp only; omega)
            have K_V8 := hW8 ▸ setRow_heap _ _ _ _ _ _ K_V7
            have G_V8 := hW8 ▸ (setRow_other _ _ _ _ (by omega)).trans G_V7
            try dsimp only
            refine hK.out _ _ S_V8 (fun _ => ?_)
            clear hK K
            refine wpAnyH_done (by kernel_rfl) ?_ _
            go_wp2_with fail
            go_meet
            exact ⟨_, _, rfl, rfl, Lib.hid ⟨(S_V8.tail.add G_V8).add K_V8, by omega, by omega⟩⟩
  case rest =>
    obtain ⟨a7, a8, rfl, rfl, S⟩ := hcut
    clear S_W0
    have La := Lib.hid (ldS2 S.out.1.a1)
    have Ga := Lib.hid (great_calls _ ia za _ (HXs.out _ S.out.1.2).1)
    go_wp2_with (refine wpList_loadg (by rfl) 38 (.tmp 7) (by rfl) _ (by rfl) _ La.out ?_)
    refine Ga.out.mono ?_
    rintro e w1 ⟨⟨b1, rfl, _⟩, hb1⟩
    have S1 := Lib.hid (And.intro (S.out.1.keep hb1) S.out.2)
    clear hb1 La Ga S
    cases b1 with
    | true =>
      go_wp2_with fail
      refine (HA.out _).mono ?_
      rintro e wa ⟨rfl, hba⟩
      have BA := Lib.hid (below_up S1.out.1.2 hba)
      clear hba HA
      go_wp2_with fail
      go_ret
      exact ⟨rfl, BA.out⟩
    | false =>
      have Lb := Lib.hid (ldS2 S1.out.1.a0)
      have Gb := Lib.hid (great_calls _ ib zb _ (HXs.out _ S1.out.1.2).2)
      go_wp2_with (refine wpList_loadg (by rfl) 38 (.tmp 8) (by rfl) _ (by rfl) _ Lb.out ?_)
      refine Gb.out.mono ?_
      rintro e w2 ⟨⟨b2, rfl, _⟩, hb2⟩
      have S2 := Lib.hid (And.intro (S1.out.1.keep hb2) S1.out.2)
      clear hb2 Lb Gb S1
      cases b2 with
      | true =>
        go_wp2_with fail
        refine (HA.out _).mono ?_
        rintro e wa ⟨rfl, hba⟩
        have BA := Lib.hid (below_up S2.out.1.2 hba)
        clear hba HA
        go_wp2_with fail
        go_ret
        exact ⟨rfl, BA.out⟩
      | false =>
        by_cases h40 : 40 < rows.length
        · have t1 : decide ((40 : Int) < (rows.length : Int)) = true := decide_eq_true (by omega)
          go_wp2_with fail
          refine (HA.out _).mono ?_
          rintro e wa ⟨rfl, hba⟩
          have BA := Lib.hid (below_up S2.out.1.2 hba)
          clear hba HA
          go_wp2_with fail
          go_ret
          exact ⟨rfl, BA.out⟩
        · have t1 : decide ((40 : Int) < (rows.length : Int)) = false := decide_eq_false (by omega)
          have S3 := Lib.hid (And.intro (S2.out.1.alloc2 (nB 0) (nB 0)) (And.intro S2.out.2 (And.intro (Array.getElem?_eq_some_iff.1 S2.out.1.a1).1 (Array.getElem?_eq_some_iff.1 S2.out.1.a0).1)))
          clear S2
          go_upto_region 5 with fail
          generalize hW : World.alloc (World.alloc w2 _) _ = W3
          obtain ⟨W4, hW4⟩ : ∃ W4, W4 = (w2.alloc (nB 0)).alloc (nB 0) := ⟨_, rfl⟩
          rw [← hW4] at S3
          obtain rfl : W3 = W4 := by rw [← hW, hW4]; kernel_rfl
          clear hW hW4
          obtain ⟨gx, hgx⟩ : ∃ gx, gx = w2.heap.size := ⟨_, rfl⟩
          rw [← hgx] at S3
          rw [← hgx]
          clear hgx
          obtain ⟨sa, hsa⟩ : ∃ sa, sa = sdB (.slice Ai ia.length ki) (.slice Al za.length kl) := ⟨_, rfl⟩
          obtain ⟨sb, hsb⟩ : ∃ sb, sb = sdB (.slice Aj ib.length kj) (.slice Ak zb.length kk) := ⟨_, rfl⟩
          rw [← hsa, ← hsb] at S3
          have HG := Lib.hid S3.out.2
          have HS := Lib.hid (And.intro hsa hsb)
          have I0 := Lib.hid (show SQ (LX gx a7 a8 sa sb (argV (sel false) (rows.take 0) 0) (argV (sel true) (rows.take 0) 0)) w W3 from S3.out.1)
          clear S3 hsa hsb
          go_wp2_with fail
          go_loopw [11] (fun s11 wr => ∃ (i : Nat), s11 = .int .i64 (i : Int) ∧ i ≤ rows.length ∧ Hid (SQ (LX gx a7 a8 sa sb (argV (sel false) (rows.take i) 0) (argV (sel true) (rows.take i) 0)) w wr)) (fun s11 _ => rows.length - (intOf s11).toNat)
          case atStart => exact ⟨0, rfl, by omega, I0⟩
          case round =>
            obtain ⟨i, rfl, hi, S⟩ := hrel
            clear I0
            by_cases hlt : i < rows.length
            · have i1 : decide ((i : Int) < (rows.length : Int)) = true := decide_eq_true (by omega)
              have i2 : (i : Int) < (rows.length : Int) := by omega
              clear HXs hza HA HS
              obtain ⟨_, _, _, _, he, _, _, hq⟩ := HXr.out wr S.out.2
              cases he
              obtain ⟨b, o, hA, _⟩ := hq (by omega)
              subst hA
              have HQ := Lib.hid (show ∀ wx, Below w.heap.size w wx → wx.rangeAt b (o + i * 15) (roC rows[i]) from fun wx hx => by
                obtain ⟨_, _, _, _, he, _, _, hq⟩ := HXr.out wx hx
                cases he
                obtain ⟨b', o', hA', hq'⟩ := hq (by omega)
                cases hA'
                exact hq' i _ (List.getElem?_eq_getElem hlt))
              have hT1 : argV (sel false) (rows.take (i + 1)) 0 = if rows[i].a.m = true ∧ argV (sel false) (rows.take i) 0 < rows[i].a.v then rows[i].a.v else argV (sel false) (rows.take i) 0 := by
                rw [List.take_succ_eq_append_getElem hlt]
                exact argV_step _ _ _ _
              have hT2 : argV (sel true) (rows.take (i + 1)) 0 = if rows[i].b.m = true ∧ argV (sel true) (rows.take i) 0 < rows[i].b.v then rows[i].b.v else argV (sel true) (rows.take i) 0 := by
                rw [List.take_succ_eq_append_getElem hlt]
                exact argV_step _ _ _ _
              have hok := OK.out rows[i] (List.getElem_mem hlt)
              have hl1 : argV (sel false) (rows.take i) 0 < (2 ^ 64) ^ 5 := argV_lt (fun r hr => (sel_ok (OK.out r (List.mem_of_mem_take hr)) false).1) (Nat.pow_pos (by decide))
              have hl2 : argV (sel true) (rows.take i) 0 < (2 ^ 64) ^ 5 := argV_lt (fun r hr => (sel_ok (OK.out r (List.mem_of_mem_take hr)) true).1) (Nat.pow_pos (by decide))
              have CMp := Lib.hid (fun wx => lcmp_calls rows[i].a.v _ wx hok.1.1 hl1)
              have CMq := Lib.hid (fun wx => lcmp_calls rows[i].b.v _ wx hok.2.1.1 hl2)
              unfold UV at CMp CMq
              clear hok hl1 hl2 hq HXr OK
              generalize rows[i] = r at *
              generalize argV (sel false) (rows.take i) 0 = X at *
              generalize argV (sel true) (rows.take i) 0 = Y at *
              obtain ⟨lv, ⟨pc, pm, pv⟩, ⟨qc, qm, qv⟩⟩ := r
              dsimp only at hT1 hT2 CMp CMq
              have hT2 := hT2
              go_upto_region 8 with fail
              -- ROUND
              cases pm with
              | false =>
                have H1 := Lib.hid (hT1.trans (if_neg (fun e => Bool.noConfusion e.1)))
                clear hT1
                have S_W0 := S.out.drew
                refine wp_region_held_drew (S := SQ (LX gx a7 a8 sa sb X Y) w) (by kernel_rfl) S_W0 (fun hHeld => ?_)
                generalize World.drew _ = W0 at *
                clear hHeld S
                refine wpAnyH_take (i := 0) (oi := ⟨some 38, _, _, _, _, _⟩) (v := .slice (some ⟨b, o, none⟩) rows.length c) rfl (by kernel_rfl) (by kernel_rfl) (by kernel_rfl) (fun _ _ _ h => h) (Or.inl ⟨by rfl, by intro wx _; go_simp⟩) (by assumption) ?_
                try simp only [Act.put, List.setIfInBounds_toArray, List.set_cons_zero, List.set_cons_succ]
                refine wpAnyH_take (i := 1) (oi := ⟨some 39, _, _, _, _, _⟩) (v := .int .i64 (i : Int)) rfl (by kernel_rfl) (by kernel_rfl) (by kernel_rfl) (fun _ _ _ h => h) (Or.inl ⟨by rfl, by intro wx _; go_simp⟩) (by assumption) ?_
                try simp only [Act.put, List.setIfInBounds_toArray, List.set_cons_zero, List.set_cons_succ]
                refine wpAnyH_take (i := 2) (oi := ⟨some 40, _, _, _, _, _⟩) (v := .pointer (some ⟨b, o + i * 15, none⟩)) rfl (by kernel_rfl) (by kernel_rfl) (by kernel_rfl) (fun _ _ _ h => h) (Or.inl ⟨by rfl, by intro wx _; go_simp⟩) (by assumption) ?_
                try simp only [Act.put, List.setIfInBounds_toArray, List.set_cons_zero, List.set_cons_succ]
                refine wpAnyH_take (i := 3) (oi := ⟨some 41, _, _, _, _, _⟩) (v := .pointer (some ⟨b, o + i * 15 + 1, none⟩)) rfl (by kernel_rfl) (by kernel_rfl) (by kernel_rfl) (fun _ _ _ h => h) (Or.inl ⟨by rfl, by intro wx _; go_simp⟩) (by assumption) ?_
                try simp only [Act.put, List.setIfInBounds_toArray, List.set_cons_zero, List.set_cons_succ]
                refine wpAnyH_take (i := 4) (oi := ⟨some 42, _, _, _, _, _⟩) (v := .pointer (some ⟨b, o + i * 15 + 1 + 1, none⟩)) rfl (by kernel_rfl) (by kernel_rfl) (by kernel_rfl) (fun _ _ _ h => h) (Or.inl ⟨by rfl, by intro wx _; go_simp⟩) (by assumption) ?_
                try simp only [Act.put, List.setIfInBounds_toArray, List.set_cons_zero, List.set_cons_succ]
                refine wpAnyH_take (i := 5) (oi := ⟨some 43, _, _, _, _, _⟩) (v := .bool false) rfl (by kernel_rfl) (by kernel_rfl) (by kernel_rfl) (fun _ _ _ h => h) (yield_load (by rfl) (by rfl) (by rfl) (fun wx hx => ld_b2 (hf1 (ro1 (HQ.out wx hx.2))))) (by assumption) ?_
                try simp only [Act.put, List.setIfInBounds_toArray, List.set_cons_zero, List.set_cons_succ]
                refine wpAnyH_take (i := 6) (oi := ⟨some 44, _, _, _, _, _⟩) (v := .bool false) rfl (by kernel_rfl) (by kernel_rfl) (by kernel_rfl) (fun _ _ _ h => h) (Or.inl ⟨by rfl, by intro wx _; go_simp⟩) (by assumption) ?_
                try simp only [Act.put, List.setIfInBounds_toArray, List.set_cons_zero, List.set_cons_succ]
                refine wpAnyH_take (i := 7) (oi := ⟨some 45, _, _, _, _, _⟩) (v := undef) rfl (by kernel_rfl) (by kernel_rfl) (by kernel_rfl) (fun _ _ _ h => h) (Or.inr ⟨by rfl, rfl⟩) (by assumption) ?_
                try simp only [Act.put, List.setIfInBounds_toArray, List.set_cons_zero, List.set_cons_succ]
                refine wpAnyH_take (i := 8) (oi := ⟨some 46, _, _, _, _, _⟩) (v := undef) rfl (by kernel_rfl) (by kernel_rfl) (by kernel_rfl) (fun _ _ _ h => h) (Or.inr ⟨by rfl, rfl⟩) (by assumption) ?_
                try simp only [Act.put, List.setIfInBounds_toArray, List.set_cons_zero, List.set_cons_succ]
                refine wpAnyH_take (i := 9) (oi := ⟨some 47, _, _, _, _, _⟩) (v := undef) rfl (by kernel_rfl) (by kernel_rfl) (by kernel_rfl) (fun _ _ _ h => h) (Or.inr ⟨by rfl, rfl⟩) (by assumption) ?_
                try simp only [Act.put, List.setIfInBounds_toArray, List.set_cons_zero, List.set_cons_succ]
                refine wpAnyH_take (i := 10) (oi := ⟨some 48, _, _, _, _, _⟩) (v := undef) rfl (by kernel_rfl) (by kernel_rfl) (by kernel_rfl) (fun _ _ _ h => h) (Or.inr ⟨by rfl, rfl⟩) (by assumption) ?_
                try simp only [Act.put, List.setIfInBounds_toArray, List.set_cons_zero, List.set_cons_succ]
                refine wpAnyH_take (i := 11) (oi := ⟨some 49, _, _, _, _, _⟩) (v := undef) rfl (by kernel_rfl) (by kernel_rfl) (by kernel_rfl) (fun _ _ _ h => h) (Or.inr ⟨by rfl, rfl⟩) (by assumption) ?_
                try simp only [Act.put, List.setIfInBounds_toArray, List.set_cons_zero, List.set_cons_succ]
                refine wpAnyH_take (i := 12) (oi := ⟨some 50, _, _, _, _, _⟩) (v := undef) rfl (by kernel_rfl) (by kernel_rfl) (by kernel_rfl) (fun _ _ _ h => h) (Or.inr ⟨by rfl, rfl⟩) (by assumption) ?_
                try simp only [Act.put, List.setIfInBounds_toArray, List.set_cons_zero, List.set_cons_succ]
                refine wpAnyH_take (i := 13) (oi := ⟨some 51, _, _, _, _, _⟩) (v := undef) rfl (by kernel_rfl) (by kernel_rfl) (by kernel_rfl) (fun _ _ _ h => h) (Or.inr ⟨by rfl, rfl⟩) (by assumption) ?_
                try simp only [Act.put, List.setIfInBounds_toArray, List.set_cons_zero, List.set_cons_succ]
                refine wpAnyH_take (i := 14) (oi := ⟨some 52, _, _, _, _, _⟩) (v := undef) rfl (by kernel_rfl) (by kernel_rfl) (by kernel_rfl) (fun _ _ _ h => h) (Or.inr ⟨by rfl, rfl⟩) (by assumption) ?_
                try simp only [Act.put, List.setIfInBounds_toArray, List.set_cons_zero, List.set_cons_succ]
                refine wpAnyH_take (i := 15) (oi := ⟨some 53, _, _, _, _, _⟩) (v := undef) rfl (by kernel_rfl) (by kernel_rfl) (by kernel_rfl) (fun _ _ _ h => h) (Or.inr ⟨by rfl, rfl⟩) (by assumption) ?_
                try simp only [Act.put, List.setIfInBounds_toArray, List.set_cons_zero, List.set_cons_succ]
                refine wpAnyH_take (i := 16) (oi := ⟨some 54, _, _, _, _, _⟩) (v := .bool false) rfl (by kernel_rfl) (by kernel_rfl) (by kernel_rfl) (fun _ _ _ h => h) (Or.inl ⟨by rfl, by intro wx _; go_simp⟩) (by assumption) ?_
                try simp only [Act.put, List.setIfInBounds_toArray, List.set_cons_zero, List.set_cons_succ]
                refine wpAnyH_done (by kernel_rfl) ?_ _
                have S := Lib.hid S_W0
                go_upto_region 10 with fail
                clear S_W0
                cases qm with
                | false =>
                  have H2 := Lib.hid (hT2.trans (if_neg (fun e => Bool.noConfusion e.1)))
                  clear hT2
                  have S_W0 := S.out.drew
                  refine wp_region_held_drew (S := SQ (LX gx a7 a8 sa sb X Y) w) (by kernel_rfl) S_W0 (fun hHeld => ?_)
                  generalize World.drew _ = W0 at *
                  clear hHeld S
                  refine wpAnyH_take (i := 0) (oi := ⟨some 61, _, _, _, _, _⟩) (v := .slice (some ⟨b, o, none⟩) rows.length c) rfl (by kernel_rfl) (by kernel_rfl) (by kernel_rfl) (fun _ _ _ h => h) (Or.inl ⟨by rfl, by intro wx _; go_simp⟩) (by assumption) ?_
                  try simp only [Act.put, List.setIfInBounds_toArray, List.set_cons_zero, List.set_cons_succ]
                  refine wpAnyH_take (i := 1) (oi := ⟨some 62, _, _, _, _, _⟩) (v := .int .i64 (i : Int)) rfl (by kernel_rfl) (by kernel_rfl) (by kernel_rfl) (fun _ _ _ h => h) (Or.inl ⟨by rfl, by intro wx _; go_simp⟩) (by assumption) ?_
                  try simp only [Act.put, List.setIfInBounds_toArray, List.set_cons_zero, List.set_cons_succ]
                  refine wpAnyH_take (i := 2) (oi := ⟨some 63, _, _, _, _, _⟩) (v := .pointer (some ⟨b, o + i * 15, none⟩)) rfl (by kernel_rfl) (by kernel_rfl) (by kernel_rfl) (fun _ _ _ h => h) (Or.inl ⟨by rfl, by intro wx _; go_simp⟩) (by assumption) ?_
                  try simp only [Act.put, List.setIfInBounds_toArray, List.set_cons_zero, List.set_cons_succ]
                  refine wpAnyH_take (i := 3) (oi := ⟨some 64, _, _, _, _, _⟩) (v := .pointer (some ⟨b, o + i * 15 + 8, none⟩)) rfl (by kernel_rfl) (by kernel_rfl) (by kernel_rfl) (fun _ _ _ h => h) (Or.inl ⟨by rfl, by intro wx _; go_simp⟩) (by assumption) ?_
                  try simp only [Act.put, List.setIfInBounds_toArray, List.set_cons_zero, List.set_cons_succ]
                  refine wpAnyH_take (i := 4) (oi := ⟨some 65, _, _, _, _, _⟩) (v := .pointer (some ⟨b, o + i * 15 + 8 + 1, none⟩)) rfl (by kernel_rfl) (by kernel_rfl) (by kernel_rfl) (fun _ _ _ h => h) (Or.inl ⟨by rfl, by intro wx _; go_simp⟩) (by assumption) ?_
                  try simp only [Act.put, List.setIfInBounds_toArray, List.set_cons_zero, List.set_cons_succ]
                  refine wpAnyH_take (i := 5) (oi := ⟨some 66, _, _, _, _, _⟩) (v := .bool false) rfl (by kernel_rfl) (by kernel_rfl) (by kernel_rfl) (fun _ _ _ h => h) (yield_load (by rfl) (by rfl) (by rfl) (fun wx hx => ld_b2 (hf1 (ro2 (HQ.out wx hx.2))))) (by assumption) ?_
                  try simp only [Act.put, List.setIfInBounds_toArray, List.set_cons_zero, List.set_cons_succ]
                  refine wpAnyH_take (i := 6) (oi := ⟨some 67, _, _, _, _, _⟩) (v := .bool false) rfl (by kernel_rfl) (by kernel_rfl) (by kernel_rfl) (fun _ _ _ h => h) (Or.inl ⟨by rfl, by intro wx _; go_simp⟩) (by assumption) ?_
                  try simp only [Act.put, List.setIfInBounds_toArray, List.set_cons_zero, List.set_cons_succ]
                  refine wpAnyH_take (i := 7) (oi := ⟨some 68, _, _, _, _, _⟩) (v := undef) rfl (by kernel_rfl) (by kernel_rfl) (by kernel_rfl) (fun _ _ _ h => h) (Or.inr ⟨by rfl, rfl⟩) (by assumption) ?_
                  try simp only [Act.put, List.setIfInBounds_toArray, List.set_cons_zero, List.set_cons_succ]
                  refine wpAnyH_take (i := 8) (oi := ⟨some 69, _, _, _, _, _⟩) (v := undef) rfl (by kernel_rfl) (by kernel_rfl) (by kernel_rfl) (fun _ _ _ h => h) (Or.inr ⟨by rfl, rfl⟩) (by assumption) ?_
                  try simp only [Act.put, List.setIfInBounds_toArray, List.set_cons_zero, List.set_cons_succ]
                  refine wpAnyH_take (i := 9) (oi := ⟨some 70, _, _, _, _, _⟩) (v := undef) rfl (by kernel_rfl) (by kernel_rfl) (by kernel_rfl) (fun _ _ _ h => h) (Or.inr ⟨by rfl, rfl⟩) (by assumption) ?_
                  try simp only [Act.put, List.setIfInBounds_toArray, List.set_cons_zero, List.set_cons_succ]
                  refine wpAnyH_take (i := 10) (oi := ⟨some 71, _, _, _, _, _⟩) (v := undef) rfl (by kernel_rfl) (by kernel_rfl) (by kernel_rfl) (fun _ _ _ h => h) (Or.inr ⟨by rfl, rfl⟩) (by assumption) ?_
                  try simp only [Act.put, List.setIfInBounds_toArray, List.set_cons_zero, List.set_cons_succ]
                  refine wpAnyH_take (i := 11) (oi := ⟨some 72, _, _, _, _, _⟩) (v := undef) rfl (by kernel_rfl) (by kernel_rfl) (by kernel_rfl) (fun _ _ _ h => h) (Or.inr ⟨by rfl, rfl⟩) (by assumption) ?_
                  try simp only [Act.put, List.setIfInBounds_toArray, List.set_cons_zero, List.set_cons_succ]
                  refine wpAnyH_take (i := 12) (oi := ⟨some 73, _, _, _, _, _⟩) (v := undef) rfl (by kernel_rfl) (by kernel_rfl) (by kernel_rfl) (fun _ _ _ h => h) (Or.inr ⟨by rfl, rfl⟩) (by assumption) ?_
                  try simp only [Act.put, List.setIfInBounds_toArray, List.set_cons_zero, List.set_cons_succ]
                  refine wpAnyH_take (i := 13) (oi := ⟨some 74, _, _, _, _, _⟩) (v := undef) rfl (by kernel_rfl) (by kernel_rfl) (by kernel_rfl) (fun _ _ _ h => h) (Or.inr ⟨by rfl, rfl⟩) (by assumption) ?_
                  try simp only [Act.put, List.setIfInBounds_toArray, List.set_cons_zero, List.set_cons_succ]
                  refine wpAnyH_take (i := 14) (oi := ⟨some 75, _, _, _, _, _⟩) (v := undef) rfl (by kernel_rfl) (by kernel_rfl) (by kernel_rfl) (fun _ _ _ h => h) (Or.inr ⟨by rfl, rfl⟩) (by assumption) ?_
                  try simp only [Act.put, List.setIfInBounds_toArray, List.set_cons_zero, List.set_cons_succ]
                  refine wpAnyH_take (i := 15) (oi := ⟨some 76, _, _, _, _, _⟩) (v := undef) rfl (by kernel_rfl) (by kernel_rfl) (by kernel_rfl) (fun _ _ _ h => h) (Or.inr ⟨by rfl, rfl⟩) (by assumption) ?_
                  try simp only [Act.put, List.setIfInBounds_toArray, List.set_cons_zero, List.set_cons_succ]
                  refine wpAnyH_take (i := 16) (oi := ⟨some 77, _, _, _, _, _⟩) (v := .bool false) rfl (by kernel_rfl) (by kernel_rfl) (by kernel_rfl) (fun _ _ _ h => h) (Or.inl ⟨by rfl, by intro wx _; go_simp⟩) (by assumption) ?_
                  try simp only [Act.put, List.setIfInBounds_toArray, List.set_cons_zero, List.set_cons_succ]
                  refine wpAnyH_done (by kernel_rfl) ?_ _
                  have S := Lib.hid S_W0
                  go_wp2_with fail
                  go_roundw
                  case rel => exact ⟨i + 1, by go_num, by omega, by rw [H1.out, H2.out]; exact S⟩
                  case measure => simp [intOf] <;> omega
                | true =>
                  by_cases hv2 : Y < qv
                  · have H2 := Lib.hid (hT2.trans (if_pos ⟨rfl, hv2⟩))
                    clear hT2
                    have t6 : decide ((0 : Int) < cmpI qv Y) = true := by rw [cmp_gt]; exact decide_eq_true hv2
                    have CM := Lib.hid (CMq.out)
                    generalize cmpI qv Y = cm at *
                    have S_W0 := S.out.drew
                    refine wp_region_held_drew (S := SQ (LX gx a7 a8 sa sb X Y) w) (by kernel_rfl) S_W0 (fun hHeld => ?_)
                    generalize World.drew _ = W0 at *
                    clear hHeld S
                    refine wpAnyH_take (i := 0) (oi := ⟨some 61, _, _, _, _, _⟩) (v := .slice (some ⟨b, o, none⟩) rows.length c) rfl (by kernel_rfl) (by kernel_rfl) (by kernel_rfl) (fun _ _ _ h => h) (Or.inl ⟨by rfl, by intro wx _; go_simp⟩) (by assumption) ?_
                    try simp only [Act.put, List.setIfInBounds_toArray, List.set_cons_zero, List.set_cons_succ]
                    refine wpAnyH_take (i := 1) (oi := ⟨some 62, _, _, _, _, _⟩) (v := .int .i64 (i : Int)) rfl (by kernel_rfl) (by kernel_rfl) (by kernel_rfl) (fun _ _ _ h => h) (Or.inl ⟨by rfl, by intro wx _; go_simp⟩) (by assumption) ?_
                    try simp only [Act.put, List.setIfInBounds_toArray, List.set_cons_zero, List.set_cons_succ]
                    refine wpAnyH_take (i := 2) (oi := ⟨some 63, _, _, _, _, _⟩) (v := .pointer (some ⟨b, o + i * 15, none⟩)) rfl (by kernel_rfl) (by kernel_rfl) (by kernel_rfl) (fun _ _ _ h => h) (Or.inl ⟨by rfl, by intro wx _; go_simp⟩) (by assumption) ?_
                    try simp only [Act.put, List.setIfInBounds_toArray, List.set_cons_zero, List.set_cons_succ]
                    refine wpAnyH_take (i := 3) (oi := ⟨some 64, _, _, _, _, _⟩) (v := .pointer (some ⟨b, o + i * 15 + 8, none⟩)) rfl (by kernel_rfl) (by kernel_rfl) (by kernel_rfl) (fun _ _ _ h => h) (Or.inl ⟨by rfl, by intro wx _; go_simp⟩) (by assumption) ?_
                    try simp only [Act.put, List.setIfInBounds_toArray, List.set_cons_zero, List.set_cons_succ]
                    refine wpAnyH_take (i := 4) (oi := ⟨some 65, _, _, _, _, _⟩) (v := .pointer (some ⟨b, o + i * 15 + 8 + 1, none⟩)) rfl (by kernel_rfl) (by kernel_rfl) (by kernel_rfl) (fun _ _ _ h => h) (Or.inl ⟨by rfl, by intro wx _; go_simp⟩) (by assumption) ?_
                    try simp only [Act.put, List.setIfInBounds_toArray, List.set_cons_zero, List.set_cons_succ]
                    refine wpAnyH_take (i := 5) (oi := ⟨some 66, _, _, _, _, _⟩) (v := .bool true) rfl (by kernel_rfl) (by kernel_rfl) (by kernel_rfl) (fun _ _ _ h => h) (yield_load (by rfl) (by rfl) (by rfl) (fun wx hx => ld_b2 (hf1 (ro2 (HQ.out wx hx.2))))) (by assumption) ?_
                    try simp only [Act.put, List.setIfInBounds_toArray, List.set_cons_zero, List.set_cons_succ]
                    refine wpAnyH_take (i := 6) (oi := ⟨some 67, _, _, _, _, _⟩) (v := .bool true) rfl (by kernel_rfl) (by kernel_rfl) (by kernel_rfl) (fun _ _ _ h => h) (Or.inl ⟨by rfl, by intro wx _; go_simp⟩) (by assumption) ?_
                    try simp only [Act.put, List.setIfInBounds_toArray, List.set_cons_zero, List.set_cons_succ]
                    refine wpAnyH_take (i := 7) (oi := ⟨some 68, _, _, _, _, _⟩) (v := .slice (some ⟨b, o, none⟩) rows.length c) rfl (by kernel_rfl) (by kernel_rfl) (by kernel_rfl) (fun _ _ _ h => h) (Or.inl ⟨by rfl, by intro wx _; go_simp⟩) (by assumption) ?_
                    try simp only [Act.put, List.setIfInBounds_toArray, List.set_cons_zero, List.set_cons_succ]
                    refine wpAnyH_take (i := 8) (oi := ⟨some 69, _, _, _, _, _⟩) (v := .int .i64 (i : Int)) rfl (by kernel_rfl) (by kernel_rfl) (by kernel_rfl) (fun _ _ _ h => h) (Or.inl ⟨by rfl, by intro wx _; go_simp⟩) (by assumption) ?_
                    try simp only [Act.put, List.setIfInBounds_toArray, List.set_cons_zero, List.set_cons_succ]
                    refine wpAnyH_take (i := 9) (oi := ⟨some 70, _, _, _, _, _⟩) (v := .pointer (some ⟨b, o + i * 15, none⟩)) rfl (by kernel_rfl) (by kernel_rfl) (by kernel_rfl) (fun _ _ _ h => h) (Or.inl ⟨by rfl, by intro wx _; go_simp⟩) (by assumption) ?_
                    try simp only [Act.put, List.setIfInBounds_toArray, List.set_cons_zero, List.set_cons_succ]
                    refine wpAnyH_take (i := 10) (oi := ⟨some 71, _, _, _, _, _⟩) (v := .pointer (some ⟨b, o + i * 15 + 8, none⟩)) rfl (by kernel_rfl) (by kernel_rfl) (by kernel_rfl) (fun _ _ _ h => h) (Or.inl ⟨by rfl, by intro wx _; go_simp⟩) (by assumption) ?_
                    try simp only [Act.put, List.setIfInBounds_toArray, List.set_cons_zero, List.set_cons_succ]
                    refine wpAnyH_take (i := 11) (oi := ⟨some 72, _, _, _, _, _⟩) (v := .pointer (some ⟨b, o + i * 15 + 8 + 2, none⟩)) rfl (by kernel_rfl) (by kernel_rfl) (by kernel_rfl) (fun _ _ _ h => h) (Or.inl ⟨by rfl, by intro wx _; go_simp⟩) (by assumption) ?_
                    try simp only [Act.put, List.setIfInBounds_toArray, List.set_cons_zero, List.set_cons_succ]
                    refine wpAnyH_take (i := 12) (oi := ⟨some 73, _, _, _, _, _⟩) (v := .agg (FC 5 (lb qv)).toArray) rfl (by kernel_rfl) (by kernel_rfl) (by kernel_rfl) (fun _ _ _ h => h) (yield_load (by rfl) (by rfl) (by rfl) (fun wx hx => ldN (hf2 (ro2 (HQ.out wx hx.2))))) (by assumption) ?_
                    try simp only [Act.put, List.setIfInBounds_toArray, List.set_cons_zero, List.set_cons_succ]
                    refine wpAnyH_take (i := 13) (oi := ⟨some 74, _, _, _, _, _⟩) (v := .agg (FC 5 (lb Y)).toArray) rfl (by kernel_rfl) (by kernel_rfl) (by kernel_rfl) (fun _ _ _ h => h) (yield_load (by rfl) (by rfl) (by rfl) (fun wx hx => ldNB (LX.y hx))) (by assumption) ?_
                    try simp only [Act.put, List.setIfInBounds_toArray, List.set_cons_zero, List.set_cons_succ]
                    refine wpAnyH_ready (rs := [14]) (by kernel_rfl) (by simp) ?_
                    refine AllReadyH.cons rfl (fun K hK => ?_) AllReadyH.nil
                    · go_simp
                      go_at_call 15
                      refine (CM.out _).mono ?_
                      rintro r V1 ⟨rfl, hb1⟩
                      have S_V1 := S_W0.keep hb1
                      try dsimp only
                      refine hK.out _ _ S_V1 (fun _ => ?_)
                      clear hK K
                      refine wpAnyH_take (i := 15) (oi := ⟨some 76, _, _, _, _, _⟩) (v := .bool true) rfl (by kernel_rfl) (by kernel_rfl) (by kernel_rfl) (fun _ _ _ h => h) (Or.inl ⟨by rfl, by intro wx _; go_simp⟩) (by assumption) ?_
                      try simp only [Act.put, List.setIfInBounds_toArray, List.set_cons_zero, List.set_cons_succ]
                      refine wpAnyH_take (i := 16) (oi := ⟨some 77, _, _, _, _, _⟩) (v := .bool true) rfl (by kernel_rfl) (by kernel_rfl) (by kernel_rfl) (fun _ _ _ h => h) (Or.inl ⟨by rfl, by intro wx _; go_simp⟩) (by assumption) ?_
                      try simp only [Act.put, List.setIfInBounds_toArray, List.set_cons_zero, List.set_cons_succ]
                      refine wpAnyH_done (by kernel_rfl) ?_ _
                      have L9 := Lib.hid (ldN (hf2 (ro2 (HQ.out _ S_V1.2))))
                      have ST := Lib.hid (st_n (Y := qv) (LX.y S_V1))
                      have S := Lib.hid (LX.putY S_V1 HG.out qv)
                      go_wp2_with (first | (refine wpList_loadg (by rfl) 26 (.tmp 82) (by rfl) _ (by rfl) _ L9.out ?_) | (refine wpList_st (by rfl) (.tmp 10) (.tmp 83) (by rfl) _ (by rfl) _ (by rfl) ST.out ?_))
                      generalize World.setRow _ _ _ = W8 at *
                      go_roundw
                      case rel => exact ⟨i + 1, by go_num, by omega, by rw [H1.out, H2.out]; exact S⟩
                      case measure => simp [intOf] <;> omega
                  · have H2 := Lib.hid (hT2.trans (if_neg (fun e => hv2 e.2)))
                    clear hT2
                    have t6 : decide ((0 : Int) < cmpI qv Y) = false := by rw [cmp_gt]; exact decide_eq_false hv2
                    have CM := Lib.hid (CMq.out)
                    generalize cmpI qv Y = cm at *
                    have S_W0 := S.out.drew
                    refine wp_region_held_drew (S := SQ (LX gx a7 a8 sa sb X Y) w) (by kernel_rfl) S_W0 (fun hHeld => ?_)
                    generalize World.drew _ = W0 at *
                    clear hHeld S
                    refine wpAnyH_take (i := 0) (oi := ⟨some 61, _, _, _, _, _⟩) (v := .slice (some ⟨b, o, none⟩) rows.length c) rfl (by kernel_rfl) (by kernel_rfl) (by kernel_rfl) (fun _ _ _ h => h) (Or.inl ⟨by rfl, by intro wx _; go_simp⟩) (by assumption) ?_
                    try simp only [Act.put, List.setIfInBounds_toArray, List.set_cons_zero, List.set_cons_succ]
                    refine wpAnyH_take (i := 1) (oi := ⟨some 62, _, _, _, _, _⟩) (v := .int .i64 (i : Int)) rfl (by kernel_rfl) (by kernel_rfl) (by kernel_rfl) (fun _ _ _ h => h) (Or.inl ⟨by rfl, by intro wx _; go_simp⟩) (by assumption) ?_
                    try simp only [Act.put, List.setIfInBounds_toArray, List.set_cons_zero, List.set_cons_succ]
                    refine wpAnyH_take (i := 2) (oi := ⟨some 63, _, _, _, _, _⟩) (v := .pointer (some ⟨b, o + i * 15, none⟩)) rfl (by kernel_rfl) (by kernel_rfl) (by kernel_rfl) (fun _ _ _ h => h) (Or.inl ⟨by rfl, by intro wx _; go_simp⟩) (by assumption) ?_
                    try simp only [Act.put, List.setIfInBounds_toArray, List.set_cons_zero, List.set_cons_succ]
                    refine wpAnyH_take (i := 3) (oi := ⟨some 64, _, _, _, _, _⟩) (v := .pointer (some ⟨b, o + i * 15 + 8, none⟩)) rfl (by kernel_rfl) (by kernel_rfl) (by kernel_rfl) (fun _ _ _ h => h) (Or.inl ⟨by rfl, by intro wx _; go_simp⟩) (by assumption) ?_
                    try simp only [Act.put, List.setIfInBounds_toArray, List.set_cons_zero, List.set_cons_succ]
                    refine wpAnyH_take (i := 4) (oi := ⟨some 65, _, _, _, _, _⟩) (v := .pointer (some ⟨b, o + i * 15 + 8 + 1, none⟩)) rfl (by kernel_rfl) (by kernel_rfl) (by kernel_rfl) (fun _ _ _ h => h) (Or.inl ⟨by rfl, by intro wx _; go_simp⟩) (by assumption) ?_
                    try simp only [Act.put, List.setIfInBounds_toArray, List.set_cons_zero, List.set_cons_succ]
                    refine wpAnyH_take (i := 5) (oi := ⟨some 66, _, _, _, _, _⟩) (v := .bool true) rfl (by kernel_rfl) (by kernel_rfl) (by kernel_rfl) (fun _ _ _ h => h) (yield_load (by rfl) (by rfl) (by rfl) (fun wx hx => ld_b2 (hf1 (ro2 (HQ.out wx hx.2))))) (by assumption) ?_
                    try simp only [Act.put, List.setIfInBounds_toArray, List.set_cons_zero, List.set_cons_succ]
                    refine wpAnyH_take (i := 6) (oi := ⟨some 67, _, _, _, _, _⟩) (v := .bool true) rfl (by kernel_rfl) (by kernel_rfl) (by kernel_rfl) (fun _ _ _ h => h) (Or.inl ⟨by rfl, by intro wx _; go_simp⟩) (by assumption) ?_
                    try simp only [Act.put, List.setIfInBounds_toArray, List.set_cons_zero, List.set_cons_succ]
                    refine wpAnyH_take (i := 7) (oi := ⟨some 68, _, _, _, _, _⟩) (v := .slice (some ⟨b, o, none⟩) rows.length c) rfl (by kernel_rfl) (by kernel_rfl) (by kernel_rfl) (fun _ _ _ h => h) (Or.inl ⟨by rfl, by intro wx _; go_simp⟩) (by assumption) ?_
                    try simp only [Act.put, List.setIfInBounds_toArray, List.set_cons_zero, List.set_cons_succ]
                    refine wpAnyH_take (i := 8) (oi := ⟨some 69, _, _, _, _, _⟩) (v := .int .i64 (i : Int)) rfl (by kernel_rfl) (by kernel_rfl) (by kernel_rfl) (fun _ _ _ h => h) (Or.inl ⟨by rfl, by intro wx _; go_simp⟩) (by assumption) ?_
                    try simp only [Act.put, List.setIfInBounds_toArray, List.set_cons_zero, List.set_cons_succ]
                    refine wpAnyH_take (i := 9) (oi := ⟨some 70, _, _, _, _, _⟩) (v := .pointer (some ⟨b, o + i * 15, none⟩)) rfl (by kernel_rfl) (by kernel_rfl) (by kernel_rfl) (fun _ _ _ h => h) (Or.inl ⟨by rfl, by intro wx _; go_simp⟩) (by assumption) ?_
                    try simp only [Act.put, List.setIfInBounds_toArray, List.set_cons_zero, List.set_cons_succ]
                    refine wpAnyH_take (i := 10) (oi := ⟨some 71, _, _, _, _, _⟩) (v := .pointer (some ⟨b, o + i * 15 + 8, none⟩)) rfl (by kernel_rfl) (by kernel_rfl) (by kernel_rfl) (fun _ _ _ h => h) (Or.inl ⟨by rfl, by intro wx _; go_simp⟩) (by assumption) ?_
                    try simp only [Act.put, List.setIfInBounds_toArray, List.set_cons_zero, List.set_cons_succ]
                    refine wpAnyH_take (i := 11) (oi := ⟨some 72, _, _, _, _, _⟩) (v := .pointer (some ⟨b, o + i * 15 + 8 + 2, none⟩)) rfl (by kernel_rfl) (by kernel_rfl) (by kernel_rfl) (fun _ _ _ h => h) (Or.inl ⟨by rfl, by intro wx _; go_simp⟩) (by assumption) ?_
                    try simp only [Act.put, List.setIfInBounds_toArray, List.set_cons_zero, List.set_cons_succ]
                    refine wpAnyH_take (i := 12) (oi := ⟨some 73, _, _, _, _, _⟩) (v := .agg (FC 5 (lb qv)).toArray) rfl (by kernel_rfl) (by kernel_rfl) (by kernel_rfl) (fun _ _ _ h => h) (yield_load (by rfl) (by rfl) (by rfl) (fun wx hx => ldN (hf2 (ro2 (HQ.out wx hx.2))))) (by assumption) ?_
                    try simp only [Act.put, List.setIfInBounds_toArray, List.set_cons_zero, List.set_cons_succ]
                    refine wpAnyH_take (i := 13) (oi := ⟨some 74, _, _, _, _, _⟩) (v := .agg (FC 5 (lb Y)).toArray) rfl (by kernel_rfl) (by kernel_rfl) (by kernel_rfl) (fun _ _ _ h => h) (yield_load (by rfl) (by rfl) (by rfl) (fun wx hx => ldNB (LX.y hx))) (by assumption) ?_
                    try simp only [Act.put, List.setIfInBounds_toArray, List.set_cons_zero, List.set_cons_succ]
                    refine wpAnyH_ready (rs := [14]) (by kernel_rfl) (by simp) ?_
                    refine AllReadyH.cons rfl (fun K hK => ?_) AllReadyH.nil
                    · go_simp
                      go_at_call 15
                      refine (CM.out _).mono ?_
                      rintro r V1 ⟨rfl, hb1⟩
                      have S_V1 := S_W0.keep hb1
                      try dsimp only
                      refine hK.out _ _ S_V1 (fun _ => ?_)
                      clear hK K
                      refine wpAnyH_take (i := 15) (oi := ⟨some 76, _, _, _, _, _⟩) (v := .bool false) rfl (by kernel_rfl) (by kernel_rfl) (by kernel_rfl) (fun _ _ _ h => h) (Or.inl ⟨by rfl, by intro wx _; go_simp⟩) (by assumption) ?_
                      try simp only [Act.put, List.setIfInBounds_toArray, List.set_cons_zero, List.set_cons_succ]
                      refine wpAnyH_take (i := 16) (oi := ⟨some 77, _, _, _, _, _⟩) (v := .bool false) rfl (by kernel_rfl) (by kernel_rfl) (by kernel_rfl) (fun _ _ _ h => h) (Or.inl ⟨by rfl, by intro wx _; go_simp⟩) (by assumption) ?_
                      try simp only [Act.put, List.setIfInBounds_toArray, List.set_cons_zero, List.set_cons_succ]
                      refine wpAnyH_done (by kernel_rfl) ?_ _
                      have S := Lib.hid S_V1
                      go_wp2_with fail
                      go_roundw
                      case rel => exact ⟨i + 1, by go_num, by omega, by rw [H1.out, H2.out]; exact S⟩
                      case measure => simp [intOf] <;> omega
              | true =>
                by_cases hv1 : X < pv
                · have H1 := Lib.hid (hT1.trans (if_pos ⟨rfl, hv1⟩))
                  clear hT1
                  have t5 : decide ((0 : Int) < cmpI pv X) = true := by rw [cmp_gt]; exact decide_eq_true hv1
                  have CM := Lib.hid (CMp.out)
                  generalize cmpI pv X = cm at *
                  have S_W0 := S.out.drew
                  refine wp_region_held_drew (S := SQ (LX gx a7 a8 sa sb X Y) w) (by kernel_rfl) S_W0 (fun hHeld => ?_)
                  generalize World.drew _ = W0 at *
                  clear hHeld S
                  refine wpAnyH_take (i := 0) (oi := ⟨some 38, _, _, _, _, _⟩) (v := .slice (some ⟨b, o, none⟩) rows.length c) rfl (by kernel_rfl) (by kernel_rfl) (by kernel_rfl) (fun _ _ _ h => h) (Or.inl ⟨by rfl, by intro wx _; go_simp⟩) (by assumption) ?_
                  try simp only [Act.put, List.setIfInBounds_toArray, List.set_cons_zero, List.set_cons_succ]
                  refine wpAnyH_take (i := 1) (oi := ⟨some 39, _, _, _, _, _⟩) (v := .int .i64 (i : Int)) rfl (by kernel_rfl) (by kernel_rfl) (by kernel_rfl) (fun _ _ _ h => h) (Or.inl ⟨by rfl, by intro wx _; go_simp⟩) (by assumption) ?_
                  try simp only [Act.put, List.setIfInBounds_toArray, List.set_cons_zero, List.set_cons_succ]
                  refine wpAnyH_take (i := 2) (oi := ⟨some 40, _, _, _, _, _⟩) (v := .pointer (some ⟨b, o + i * 15, none⟩)) rfl (by kernel_rfl) (by kernel_rfl) (by kernel_rfl) (fun _ _ _ h => h) (Or.inl ⟨by rfl, by intro wx _; go_simp⟩) (by assumption) ?_
                  try simp only [Act.put, List.setIfInBounds_toArray, List.set_cons_zero, List.set_cons_succ]
                  refine wpAnyH_take (i := 3) (oi := ⟨some 41, _, _, _, _, _⟩) (v := .pointer (some ⟨b, o + i * 15 + 1, none⟩)) rfl (by kernel_rfl) (by kernel_rfl) (by kernel_rfl) (fun _ _ _ h => h) (Or.inl ⟨by rfl, by intro wx _; go_simp⟩) (by assumption) ?_
                  try simp only [Act.put, List.setIfInBounds_toArray, List.set_cons_zero, List.set_cons_succ]
                  refine wpAnyH_take (i := 4) (oi := ⟨some 42, _, _, _, _, _⟩) (v := .pointer (some ⟨b, o + i * 15 + 1 + 1, none⟩)) rfl (by kernel_rfl) (by kernel_rfl) (by kernel_rfl) (fun _ _ _ h => h) (Or.inl ⟨by rfl, by intro wx _; go_simp⟩) (by assumption) ?_
                  try simp only [Act.put, List.setIfInBounds_toArray, List.set_cons_zero, List.set_cons_succ]
                  refine wpAnyH_take (i := 5) (oi := ⟨some 43, _, _, _, _, _⟩) (v := .bool true) rfl (by kernel_rfl) (by kernel_rfl) (by kernel_rfl) (fun _ _ _ h => h) (yield_load (by rfl) (by rfl) (by rfl) (fun wx hx => ld_b2 (hf1 (ro1 (HQ.out wx hx.2))))) (by assumption) ?_
                  try simp only [Act.put, List.setIfInBounds_toArray, List.set_cons_zero, List.set_cons_succ]
                  refine wpAnyH_take (i := 6) (oi := ⟨some 44, _, _, _, _, _⟩) (v := .bool true) rfl (by kernel_rfl) (by kernel_rfl) (by kernel_rfl) (fun _ _ _ h => h) (Or.inl ⟨by rfl, by intro wx _; go_simp⟩) (by assumption) ?_
                  try simp only [Act.put, List.setIfInBounds_toArray, List.set_cons_zero, List.set_cons_succ]
                  refine wpAnyH_take (i := 7) (oi := ⟨some 45, _, _, _, _, _⟩) (v := .slice (some ⟨b, o, none⟩) rows.length c) rfl (by kernel_rfl) (by kernel_rfl) (by kernel_rfl) (fun _ _ _ h => h) (Or.inl ⟨by rfl, by intro wx _; go_simp⟩) (by assumption) ?_
                  try simp only [Act.put, List.setIfInBounds_toArray, List.set_cons_zero, List.set_cons_succ]
                  refine wpAnyH_take (i := 8) (oi := ⟨some 46, _, _, _, _, _⟩) (v := .int .i64 (i : Int)) rfl (by kernel_rfl) (by kernel_rfl) (by kernel_rfl) (fun _ _ _ h => h) (Or.inl ⟨by rfl, by intro wx _; go_simp⟩) (by assumption) ?_
                  try simp only [Act.put, List.setIfInBounds_toArray, List.set_cons_zero, List.set_cons_succ]
                  refine wpAnyH_take (i := 9) (oi := ⟨some 47, _, _, _, _, _⟩) (v := .pointer (some ⟨b, o + i * 15, none⟩)) rfl (by kernel_rfl) (by kernel_rfl) (by kernel_rfl) (fun _ _ _ h => h) (Or.inl ⟨by rfl, by intro wx _; go_simp⟩) (by assumption) ?_
                  try simp only [Act.put, List.setIfInBounds_toArray, List.set_cons_zero, List.set_cons_succ]
                  refine wpAnyH_take (i := 10) (oi := ⟨some 48, _, _, _, _, _⟩) (v := .pointer (some ⟨b, o + i * 15 + 1, none⟩)) rfl (by kernel_rfl) (by kernel_rfl) (by kernel_rfl) (fun _ _ _ h => h) (Or.inl ⟨by rfl, by intro wx _; go_simp⟩) (by assumption) ?_
                  try simp only [Act.put, List.setIfInBounds_toArray, List.set_cons_zero, List.set_cons_succ]
                  refine wpAnyH_take (i := 11) (oi := ⟨some 49, _, _, _, _, _⟩) (v := .pointer (some ⟨b, o + i * 15 + 1 + 2, none⟩)) rfl (by kernel_rfl) (by kernel_rfl) (by kernel_rfl) (fun _ _ _ h => h) (Or.inl ⟨by rfl, by intro wx _; go_simp⟩) (by assumption) ?_
                  try simp only [Act.put, List.setIfInBounds_toArray, List.set_cons_zero, List.set_cons_succ]
                  refine wpAnyH_take (i := 12) (oi := ⟨some 50, _, _, _, _, _⟩) (v := .agg (FC 5 (lb pv)).toArray) rfl (by kernel_rfl) (by kernel_rfl) (by kernel_rfl) (fun _ _ _ h => h) (yield_load (by rfl) (by rfl) (by rfl) (fun wx hx => ldN (hf2 (ro1 (HQ.out wx hx.2))))) (by assumption) ?_
                  try simp only [Act.put, List.setIfInBounds_toArray, List.set_cons_zero, List.set_cons_succ]
                  refine wpAnyH_take (i := 13) (oi := ⟨some 51, _, _, _, _, _⟩) (v := .agg (FC 5 (lb X)).toArray) rfl (by kernel_rfl) (by kernel_rfl) (by kernel_rfl) (fun _ _ _ h => h) (yield_load (by rfl) (by rfl) (by rfl) (fun wx hx => ldNB (LX.x hx))) (by assumption) ?_
                  try simp only [Act.put, List.setIfInBounds_toArray, List.set_cons_zero, List.set_cons_succ]
                  refine wpAnyH_ready (rs := [14]) (by kernel_rfl) (by simp) ?_
                  refine AllReadyH.cons rfl (fun K hK => ?_) AllReadyH.nil
                  · go_simp
                    go_at_call 15
                    refine (CM.out _).mono ?_
                    rintro r V1 ⟨rfl, hb1⟩
                    have S_V1 := S_W0.keep hb1
                    try dsimp only
                    refine hK.out _ _ S_V1 (fun _ => ?_)
                    clear hK K
                    refine wpAnyH_take (i := 15) (oi := ⟨some 53, _, _, _, _, _⟩) (v := .bool true) rfl (by kernel_rfl) (by kernel_rfl) (by kernel_rfl) (fun _ _ _ h => h) (Or.inl ⟨by rfl, by intro wx _; go_simp⟩) (by assumption) ?_
                    try simp only [Act.put, List.setIfInBounds_toArray, List.set_cons_zero, List.set_cons_succ]
                    refine wpAnyH_take (i := 16) (oi := ⟨some 54, _, _, _, _, _⟩) (v := .bool true) rfl (by kernel_rfl) (by kernel_rfl) (by kernel_rfl) (fun _ _ _ h => h) (Or.inl ⟨by rfl, by intro wx _; go_simp⟩) (by assumption) ?_
                    try simp only [Act.put, List.setIfInBounds_toArray, List.set_cons_zero, List.set_cons_succ]
                    refine wpAnyH_done (by kernel_rfl) ?_ _
                    have L9 := Lib.hid (ldN (hf2 (ro1 (HQ.out _ S_V1.2))))
                    have ST := Lib.hid (st_n (Y := pv) (LX.x S_V1))
                    have S := Lib.hid (LX.putX S_V1 HG.out pv)
                    clear S_V1
                    go_upto_region 10 with (first | (refine wpList_loadg (by rfl) 26 (.tmp 59) (by rfl) _ (by rfl) _ L9.out ?_) | (refine wpList_st (by rfl) (.tmp 9) (.tmp 60) (by rfl) _ (by rfl) _ (by rfl) ST.out ?_))
                    generalize World.setRow _ _ _ = W7 at *
                    clear L9 ST CM t5
                    cases qm with
                    | false =>
                      have H2 := Lib.hid (hT2.trans (if_neg (fun e => Bool.noConfusion e.1)))
                      clear hT2
                      have S_W0 := S.out.drew
                      refine wp_region_held_drew (S := SQ (LX gx a7 a8 sa sb pv Y) w) (by kernel_rfl) S_W0 (fun hHeld => ?_)
                      generalize World.drew _ = W0 at *
                      clear hHeld S
                      refine wpAnyH_take (i := 0) (oi := ⟨some 61, _, _, _, _, _⟩) (v := .slice (some ⟨b, o, none⟩) rows.length c) rfl (by kernel_rfl) (by kernel_rfl) (by kernel_rfl) (fun _ _ _ h => h) (Or.inl ⟨by rfl, by intro wx _; go_simp⟩) (by assumption) ?_
                      try simp only [Act.put, List.setIfInBounds_toArray, List.set_cons_zero, List.set_cons_succ]
                      refine wpAnyH_take (i := 1) (oi := ⟨some 62, _, _, _, _, _⟩) (v := .int .i64 (i : Int)) rfl (by kernel_rfl) (by kernel_rfl) (by kernel_rfl) (fun _ _ _ h => h) (Or.inl ⟨by rfl, by intro wx _; go_simp⟩) (by assumption) ?_
                      try simp only [Act.put, List.setIfInBounds_toArray, List.set_cons_zero, List.set_cons_succ]
                      refine wpAnyH_take (i := 2) (oi := ⟨some 63, _, _, _, _, _⟩) (v := .pointer (some ⟨b, o + i * 15, none⟩)) rfl (by kernel_rfl) (by kernel_rfl) (by kernel_rfl) (fun _ _ _ h => h) (Or.inl ⟨by rfl, by intro wx _; go_simp⟩) (by assumption) ?_
                      try simp only [Act.put, List.setIfInBounds_toArray, List.set_cons_zero, List.set_cons_succ]
                      refine wpAnyH_take (i := 3) (oi := ⟨some 64, _, _, _, _, _⟩) (v := .pointer (some ⟨b, o + i * 15 + 8, none⟩)) rfl (by kernel_rfl) (by kernel_rfl) (by kernel_rfl) (fun _ _ _ h => h) (Or.inl ⟨by rfl, by intro wx _; go_simp⟩) (by assumption) ?_
                      try simp only [Act.put, List.setIfInBounds_toArray, List.set_cons_zero, List.set_cons_succ]
                      refine wpAnyH_take (i := 4) (oi := ⟨some 65, _, _, _, _, _⟩) (v := .pointer (some ⟨b, o + i * 15 + 8 + 1, none⟩)) rfl (by kernel_rfl) (by kernel_rfl) (by kernel_rfl) (fun _ _ _ h => h) (Or.inl ⟨by rfl, by intro wx _; go_simp⟩) (by assumption) ?_
                      try simp only [Act.put, List.setIfInBounds_toArray, List.set_cons_zero, List.set_cons_succ]
                      refine wpAnyH_take (i := 5) (oi := ⟨some 66, _, _, _, _, _⟩) (v := .bool false) rfl (by kernel_rfl) (by kernel_rfl) (by kernel_rfl) (fun _ _ _ h => h) (yield_load (by rfl) (by rfl) (by rfl) (fun wx hx => ld_b2 (hf1 (ro2 (HQ.out wx hx.2))))) (by assumption) ?_
                      try simp only [Act.put, List.setIfInBounds_toArray, List.set_cons_zero, List.set_cons_succ]
                      refine wpAnyH_take (i := 6) (oi := ⟨some 67, _, _, _, _, _⟩) (v := .bool false) rfl (by kernel_rfl) (by kernel_rfl) (by kernel_rfl) (fun _ _ _ h => h) (Or.inl ⟨by rfl, by intro wx _; go_simp⟩) (by assumption) ?_
                      try simp only [Act.put, List.setIfInBounds_toArray, List.set_cons_zero, List.set_cons_succ]
                      refine wpAnyH_take (i := 7) (oi := ⟨some 68, _, _, _, _, _⟩) (v := undef) rfl (by kernel_rfl) (by kernel_rfl) (by kernel_rfl) (fun _ _ _ h => h) (Or.inr ⟨by rfl, rfl⟩) (by assumption) ?_
                      try simp only [Act.put, List.setIfInBounds_toArray, List.set_cons_zero, List.set_cons_succ]
                      refine wpAnyH_take (i := 8) (oi := ⟨some 69, _, _, _, _, _⟩) (v := undef) rfl (by kernel_rfl) (by kernel_rfl) (by kernel_rfl) (fun _ _ _ h => h) (Or.inr ⟨by rfl, rfl⟩) (by assumption) ?_
                      try simp only [Act.put, List.setIfInBounds_toArray, List.set_cons_zero, List.set_cons_succ]
                      refine wpAnyH_take (i := 9) (oi := ⟨some 70, _, _, _, _, _⟩) (v := undef) rfl (by kernel_rfl) (by kernel_rfl) (by kernel_rfl) (fun _ _ _ h => h) (Or.inr ⟨by rfl, rfl⟩) (by assumption) ?_
                      try simp only [Act.put, List.setIfInBounds_toArray, List.set_cons_zero, List.set_cons_succ]
                      refine wpAnyH_take (i := 10) (oi := ⟨some 71, _, _, _, _, _⟩) (v := undef) rfl (by kernel_rfl) (by kernel_rfl) (by kernel_rfl) (fun _ _ _ h => h) (Or.inr ⟨by rfl, rfl⟩) (by assumption) ?_
                      try simp only [Act.put, List.setIfInBounds_toArray, List.set_cons_zero, List.set_cons_succ]
                      refine wpAnyH_take (i := 11) (oi := ⟨some 72, _, _, _, _, _⟩) (v := undef) rfl (by kernel_rfl) (by kernel_rfl) (by kernel_rfl) (fun _ _ _ h => h) (Or.inr ⟨by rfl, rfl⟩) (by assumption) ?_
                      try simp only [Act.put, List.setIfInBounds_toArray, List.set_cons_zero, List.set_cons_succ]
                      refine wpAnyH_take (i := 12) (oi := ⟨some 73, _, _, _, _, _⟩) (v := undef) rfl (by kernel_rfl) (by kernel_rfl) (by kernel_rfl) (fun _ _ _ h => h) (Or.inr ⟨by rfl, rfl⟩) (by assumption) ?_
                      try simp only [Act.put, List.setIfInBounds_toArray, List.set_cons_zero, List.set_cons_succ]
                      refine wpAnyH_take (i := 13) (oi := ⟨some 74, _, _, _, _, _⟩) (v := undef) rfl (by kernel_rfl) (by kernel_rfl) (by kernel_rfl) (fun _ _ _ h => h) (Or.inr ⟨by rfl, rfl⟩) (by assumption) ?_
                      try simp only [Act.put, List.setIfInBounds_toArray, List.set_cons_zero, List.set_cons_succ]
                      refine wpAnyH_take (i := 14) (oi := ⟨some 75, _, _, _, _, _⟩) (v := undef) rfl (by kernel_rfl) (by kernel_rfl) (by kernel_rfl) (fun _ _ _ h => h) (Or.inr ⟨by rfl, rfl⟩) (by assumption) ?_
                      try simp only [Act.put, List.setIfInBounds_toArray, List.set_cons_zero, List.set_cons_succ]
                      refine wpAnyH_take (i := 15) (oi := ⟨some 76, _, _, _, _, _⟩) (v := undef) rfl (by kernel_rfl) (by kernel_rfl) (by kernel_rfl) (fun _ _ _ h => h) (Or.inr ⟨by rfl, rfl⟩) (by assumption) ?_
                      try simp only [Act.put, List.setIfInBounds_toArray, List.set_cons_zero, List.set_cons_succ]
                      refine wpAnyH_take (i := 16) (oi := ⟨some 77, _, _, _, _, _⟩) (v := .bool false) rfl (by kernel_rfl) (by kernel_rfl) (by kernel_rfl) (fun _ _ _ h => h) (Or.inl ⟨by rfl, by intro wx _; go_simp⟩) (by assumption) ?_
                      try simp only [Act.put, List.setIfInBounds_toArray, List.set_cons_zero, List.set_cons_succ]
                      refine wpAnyH_done (by kernel_rfl) ?_ _
                      have S := Lib.hid S_W0
                      go_wp2_with fail
                      go_roundw
                      case rel => exact ⟨i + 1, by go_num, by omega, by rw [H1.out, H2.out]; exact S⟩
                      case measure => simp [intOf] <;> omega
                    | true =>
                      by_cases hv2 : Y < qv
                      · have H2 := Lib.hid (hT2.trans (if_pos ⟨rfl, hv2⟩))
                        clear hT2
                        have t6 : decide ((0 : Int) < cmpI qv Y) = true := by rw [cmp_gt]; exact decide_eq_true hv2
                        have CM := Lib.hid (CMq.out)
                        generalize cmpI qv Y = cm at *
                        have S_W0 := S.out.drew
                        refine wp_region_held_drew (S := SQ (LX gx a7 a8 sa sb pv Y) w) (by kernel_rfl) S_W0 (fun hHeld => ?_)
                        generalize World.drew _ = W0 at *
                        clear hHeld S
                        refine wpAnyH_take (i := 0) (oi := ⟨some 61, _, _, _, _, _⟩) (v := .slice (some ⟨b, o, none⟩) rows.length c) rfl (by kernel_rfl) (by kernel_rfl) (by kernel_rfl) (fun _ _ _ h => h) (Or.inl ⟨by rfl, by intro wx _; go_simp⟩) (by assumption) ?_
                        try simp only [Act.put, List.setIfInBounds_toArray, List.set_cons_zero, List.set_cons_succ]
                        refine wpAnyH_take (i := 1) (oi := ⟨some 62, _, _, _, _, _⟩) (v := .int .i64 (i : Int)) rfl (by kernel_rfl) (by kernel_rfl) (by kernel_rfl) (fun _ _ _ h => h) (Or.inl ⟨by rfl, by intro wx _; go_simp⟩) (by assumption) ?_
                        try simp only [Act.put, List.setIfInBounds_toArray, List.set_cons_zero, List.set_cons_succ]
                        refine wpAnyH_take (i := 2) (oi := ⟨some 63, _, _, _, _, _⟩) (v := .pointer (some ⟨b, o + i * 15, none⟩)) rfl (by kernel_rfl) (by kernel_rfl) (by kernel_rfl) (fun _ _ _ h => h) (Or.inl ⟨by rfl, by intro wx _; go_simp⟩) (by assumption) ?_
                        try simp only [Act.put, List.setIfInBounds_toArray, List.set_cons_zero, List.set_cons_succ]
                        refine wpAnyH_take (i := 3) (oi := ⟨some 64, _, _, _, _, _⟩) (v := .pointer (some ⟨b, o + i * 15 + 8, none⟩)) rfl (by kernel_rfl) (by kernel_rfl) (by kernel_rfl) (fun _ _ _ h => h) (Or.inl ⟨by rfl, by intro wx _; go_simp⟩) (by assumption) ?_
                        try simp only [Act.put, List.setIfInBounds_toArray, List.set_cons_zero, List.set_cons_succ]
                        refine wpAnyH_take (i := 4) (oi := ⟨some 65, _, _, _, _, _⟩) (v := .pointer (some ⟨b, o + i * 15 + 8 + 1, none⟩)) rfl (by kernel_rfl) (by kernel_rfl) (by kernel_rfl) (fun _ _ _ h => h) (Or.inl ⟨by rfl, by intro wx _; go_simp⟩) (by assumption) ?_
                        try simp only [Act.put, List.setIfInBounds_toArray, List.set_cons_zero, List.set_cons_succ]
                        refine wpAnyH_take (i := 5) (oi := ⟨some 66, _, _, _, _, _⟩) (v := .bool true) rfl (by kernel_rfl) (by kernel_rfl) (by kernel_rfl) (fun _ _ _ h => h) (yield_load (by rfl) (by rfl) (by rfl) (fun wx hx => ld_b2 (hf1 (ro2 (HQ.out wx hx.2))))) (by assumption) ?_
                        try simp only [Act.put, List.setIfInBounds_toArray, List.set_cons_zero, List.set_cons_succ]
                        refine wpAnyH_take (i := 6) (oi := ⟨some 67, _, _, _, _, _⟩) (v := .bool true) rfl (by kernel_rfl) (by kernel_rfl) (by kernel_rfl) (fun _ _ _ h => h) (Or.inl ⟨by rfl, by intro wx _; go_simp⟩) (by assumption) ?_
                        try simp only [Act.put, List.setIfInBounds_toArray, List.set_cons_zero, List.set_cons_succ]
                        refine wpAnyH_take (i := 7) (oi := ⟨some 68, _, _, _, _, _⟩) (v := .slice (some ⟨b, o, none⟩) rows.length c) rfl (by kernel_rfl) (by kernel_rfl) (by kernel_rfl) (fun _ _ _ h => h) (Or.inl ⟨by rfl, by intro wx _; go_simp⟩) (by assumption) ?_
                        try simp only [Act.put, List.setIfInBounds_toArray, List.set_cons_zero, List.set_cons_succ]
                        refine wpAnyH_take (i := 8) (oi := ⟨some 69, _, _, _, _, _⟩) (v := .int .i64 (i : Int)) rfl (by kernel_rfl) (by kernel_rfl) (by kernel_rfl) (fun _ _ _ h => h) (Or.inl ⟨by rfl, by intro wx _; go_simp⟩) (by assumption) ?_
                        try simp only [Act.put, List.setIfInBounds_toArray, List.set_cons_zero, List.set_cons_succ]
                        refine wpAnyH_take (i := 9) (oi := ⟨some 70, _, _, _, _, _⟩) (v := .pointer (some ⟨b, o + i * 15, none⟩)) rfl (by kernel_rfl) (by kernel_rfl) (by kernel_rfl) (fun _ _ _ h => h) (Or.inl ⟨by rfl, by intro wx _; go_simp⟩) (by assumption) ?_
                        try simp only [Act.put, List.setIfInBounds_toArray, List.set_cons_zero, List.set_cons_succ]
                        refine wpAnyH_take (i := 10) (oi := ⟨some 71, _, _, _, _, _⟩) (v := .pointer (some ⟨b, o + i * 15 + 8, none⟩)) rfl (by kernel_rfl) (by kernel_rfl) (by kernel_rfl) (fun _ _ _ h => h) (Or.inl ⟨by rfl, by intro wx _; go_simp⟩) (by assumption) ?_
                        try simp only [Act.put, List.setIfInBounds_toArray, List.set_cons_zero, List.set_cons_succ]
                        refine wpAnyH_take (i := 11) (oi := ⟨some 72, _, _, _, _, _⟩) (v := .pointer (some ⟨b, o + i * 15 + 8 + 2, none⟩)) rfl (by kernel_rfl) (by kernel_rfl) (by kernel_rfl) (fun _ _ _ h => h) (Or.inl ⟨by rfl, by intro wx _; go_simp⟩) (by assumption) ?_
                        try simp only [Act.put, List.setIfInBounds_toArray, List.set_cons_zero, List.set_cons_succ]
                        refine wpAnyH_take (i := 12) (oi := ⟨some 73, _, _, _, _, _⟩) (v := .agg (FC 5 (lb qv)).toArray) rfl (by kernel_rfl) (by kernel_rfl) (by kernel_rfl) (fun _ _ _ h => h) (yield_load (by rfl) (by rfl) (by rfl) (fun wx hx => ldN (hf2 (ro2 (HQ.out wx hx.2))))) (by assumption) ?_
                        try simp only [Act.put, List.setIfInBounds_toArray, List.set_cons_zero, List.set_cons_succ]
                        refine wpAnyH_take (i := 13) (oi := ⟨some 74, _, _, _, _, _⟩) (v := .agg (FC 5 (lb Y)).toArray) rfl (by kernel_rfl) (by kernel_rfl) (by kernel_rfl) (fun _ _ _ h => h) (yield_load (by rfl) (by rfl) (by rfl) (fun wx hx => ldNB (LX.y hx))) (by assumption) ?_
                        try simp only [Act.put, List.setIfInBounds_toArray, List.set_cons_zero, List.set_cons_succ]
                        refine wpAnyH_ready (rs := [14]) (by kernel_rfl) (by simp) ?_
                        refine AllReadyH.cons rfl (fun K hK => ?_) AllReadyH.nil
                        · go_simp
                          go_at_call 15
                          refine (CM.out _).mono ?_
                          rintro r V1 ⟨rfl, hb1⟩
                          have S_V1 := S_W0.keep hb1
                          try dsimp only
                          refine hK.out _ _ S_V1 (fun _ => ?_)
                          clear hK K
                          refine wpAnyH_take (i := 15) (oi := ⟨some 76, _, _, _, _, _⟩) (v := .bool true) rfl (by kernel_rfl) (by kernel_rfl) (by kernel_rfl) (fun _ _ _ h => h) (Or.inl ⟨by rfl, by intro wx _; go_simp⟩) (by assumption) ?_
                          try simp only [Act.put, List.setIfInBounds_toArray, List.set_cons_zero, List.set_cons_succ]
                          refine wpAnyH_take (i := 16) (oi := ⟨some 77, _, _, _, _, _⟩) (v := .bool true) rfl (by kernel_rfl) (by kernel_rfl) (by kernel_rfl) (fun _ _ _ h => h) (Or.inl ⟨by rfl, by intro wx _; go_simp⟩) (by assumption) ?_
                          try simp only [Act.put, List.setIfInBounds_toArray, List.set_cons_zero, List.set_cons_succ]
                          refine wpAnyH_done (by kernel_rfl) ?_ _
                          have L9 := Lib.hid (ldN (hf2 (ro2 (HQ.out _ S_V1.2))))
                          have ST := Lib.hid (st_n (Y := qv) (LX.y S_V1))
                          have S := Lib.hid (LX.putY S_V1 HG.out qv)
                          go_wp2_with (first | (refine wpList_loadg (by rfl) 26 (.tmp 82) (by rfl) _ (by rfl) _ L9.out ?_) | (refine wpList_st (by rfl) (.tmp 10) (.tmp 83) (by rfl) _ (by rfl) _ (by rfl) ST.out ?_))
                          generalize World.setRow _ _ _ = W8 at *
                          go_roundw
                          case rel => exact ⟨i + 1, by go_num, by omega, by rw [H1.out, H2.out]; exact S⟩
                          case measure => simp [intOf] <;> omega
                      · have H2 := Lib.hid (hT2.trans (if_neg (fun e => hv2 e.2)))
                        clear hT2
                        have t6 : decide ((0 : Int) < cmpI qv Y) = false := by rw [cmp_gt]; exact decide_eq_false hv2
                        have CM := Lib.hid (CMq.out)
                        generalize cmpI qv Y = cm at *
                        have S_W0 := S.out.drew
                        refine wp_region_held_drew (S := SQ (LX gx a7 a8 sa sb pv Y) w) (by kernel_rfl) S_W0 (fun hHeld => ?_)
                        generalize World.drew _ = W0 at *
                        clear hHeld S
                        refine wpAnyH_take (i := 0) (oi := ⟨some 61, _, _, _, _, _⟩) (v := .slice (some ⟨b, o, none⟩) rows.length c) rfl (by kernel_rfl) (by kernel_rfl) (by kernel_rfl) (fun _ _ _ h => h) (Or.inl ⟨by rfl, by intro wx _; go_simp⟩) (by assumption) ?_
                        try simp only [Act.put, List.setIfInBounds_toArray, List.set_cons_zero, List.set_cons_succ]
                        refine wpAnyH_take (i := 1) (oi := ⟨some 62, _, _, _, _, _⟩) (v := .int .i64 (i : Int)) rfl (by kernel_rfl) (by kernel_rfl) (by kernel_rfl) (fun _ _ _ h => h) (Or.inl ⟨by rfl, by intro wx _; go_simp⟩) (by assumption) ?_
                        try simp only [Act.put, List.setIfInBounds_toArray, List.set_cons_zero, List.set_cons_succ]
                        refine wpAnyH_take (i := 2) (oi := ⟨some 63, _, _, _, _, _⟩) (v := .pointer (some ⟨b, o + i * 15, none⟩)) rfl (by kernel_rfl) (by kernel_rfl) (by kernel_rfl) (fun _ _ _ h => h) (Or.inl ⟨by rfl, by intro wx _; go_simp⟩) (by assumption) ?_
                        try simp only [Act.put, List.setIfInBounds_toArray, List.set_cons_zero, List.set_cons_succ]
                        refine wpAnyH_take (i := 3) (oi := ⟨some 64, _, _, _, _, _⟩) (v := .pointer (some ⟨b, o + i * 15 + 8, none⟩)) rfl (by kernel_rfl) (by kernel_rfl) (by kernel_rfl) (fun _ _ _ h => h) (Or.inl ⟨by rfl, by intro wx _; go_simp⟩) (by assumption) ?_
                        try simp only [Act.put, List.setIfInBounds_toArray, List.set_cons_zero, List.set_cons_succ]
                        refine wpAnyH_take (i := 4) (oi := ⟨some 65, _, _, _, _, _⟩) (v := .pointer (some ⟨b, o + i * 15 + 8 + 1, none⟩)) rfl (by kernel_rfl) (by kernel_rfl) (by kernel_rfl) (fun _ _ _ h => h) (Or.inl ⟨by rfl, by intro wx _; go_simp⟩) (by assumption) ?_
                        try simp only [Act.put, List.setIfInBounds_toArray, List.set_cons_zero, List.set_cons_succ]
                        refine wpAnyH_take (i := 5) (oi := ⟨some 66, _, _, _, _, _⟩) (v := .bool true) rfl (by kernel_rfl) (by kernel_rfl) (by kernel_rfl) (fun _ _ _ h => h) (yield_load (by rfl) (by rfl) (by rfl) (fun wx hx => ld_b2 (hf1 (ro2 (HQ.out wx hx.2))))) (by assumption) ?_
                        try simp only [Act.put, List.setIfInBounds_toArray, List.set_cons_zero, List.set_cons_succ]
                        refine wpAnyH_take (i := 6) (oi := ⟨some 67, _, _, _, _, _⟩) (v := .bool true) rfl (by kernel_rfl) (by kernel_rfl) (by kernel_rfl) (fun _ _ _ h => h) (Or.inl ⟨by rfl, by intro wx _; go_simp⟩) (by assumption) ?_
                        try simp only [Act.put, List.setIfInBounds_toArray, List.set_cons_zero, List.set_cons_succ]
                        refine wpAnyH_take (i := 7) (oi := ⟨some 68, _, _, _, _, _⟩) (v := .slice (some ⟨b, o, none⟩) rows.length c) rfl (by kernel_rfl) (by kernel_rfl) (by kernel_rfl) (fun _ _ _ h => h) (Or.inl ⟨by rfl, by intro wx _; go_simp⟩) (by assumption) ?_
                        try simp only [Act.put, List.setIfInBounds_toArray, List.set_cons_zero, List.set_cons_succ]
                        refine wpAnyH_take (i := 8) (oi := ⟨some 69, _, _, _, _, _⟩) (v := .int .i64 (i : Int)) rfl (by kernel_rfl) (by kernel_rfl) (by kernel_rfl) (fun _ _ _ h => h) (Or.inl ⟨by rfl, by intro wx _; go_simp⟩) (by assumption) ?_
                        try simp only [Act.put, List.setIfInBounds_toArray, List.set_cons_zero, List.set_cons_succ]
                        refine wpAnyH_take (i := 9) (oi := ⟨some 70, _, _, _, _, _⟩) (v := .pointer (some ⟨b, o + i * 15, none⟩)) rfl (by kernel_rfl) (by kernel_rfl) (by kernel_rfl) (fun _ _ _ h => h) (Or.inl ⟨by rfl, by intro wx _; go_simp⟩) (by assumption) ?_
                        try simp only [Act.put, List.setIfInBounds_toArray, List.set_cons_zero, List.set_cons_succ]
                        refine wpAnyH_take (i := 10) (oi := ⟨some 71, _, _, _, _, _⟩) (v := .pointer (some ⟨b, o + i * 15 + 8, none⟩)) rfl (by kernel_rfl) (by kernel_rfl) (by kernel_rfl) (fun _ _ _ h => h) (Or.inl ⟨by rfl, by intro wx _; go_simp⟩) (by assumption) ?_
                        try simp only [Act.put, List.setIfInBounds_toArray, List.set_cons_zero, List.set_cons_succ]
                        refine wpAnyH_take (i := 11) (oi := ⟨some 72, _, _, _, _, _⟩) (v := .pointer (some ⟨b, o + i * 15 + 8 + 2, none⟩)) rfl (by kernel_rfl) (by kernel_rfl) (by kernel_rfl) (fun _ _ _ h => h) (Or.inl ⟨by rfl, by intro wx _; go_simp⟩) (by assumption) ?_
                        try simp only [Act.put, List.setIfInBounds_toArray, List.set_cons_zero, List.set_cons_succ]
                        refine wpAnyH_take (i := 12) (oi := ⟨some 73, _, _, _, _, _⟩) (v := .agg (FC 5 (lb qv)).toArray) rfl (by kernel_rfl) (by kernel_rfl) (by kernel_rfl) (fun _ _ _ h => h) (yield_load (by rfl) (by rfl) (by rfl) (fun wx hx => ldN (hf2 (ro2 (HQ.out wx hx.2))))) (by assumption) ?_
                        try simp only [Act.put, List.setIfInBounds_toArray, List.set_cons_zero, List.set_cons_succ]
                        refine wpAnyH_take (i := 13) (oi := ⟨some 74, _, _, _, _, _⟩) (v := .agg (FC 5 (lb Y)).toArray) rfl (by kernel_rfl) (by kernel_rfl) (by kernel_rfl) (fun _ _ _ h => h) (yield_load (by rfl) (by rfl) (by rfl) (fun wx hx => ldNB (LX.y hx))) (by assumption) ?_
                        try simp only [Act.put, List.setIfInBounds_toArray, List.set_cons_zero, List.set_cons_succ]
                        refine wpAnyH_ready (rs := [14]) (by kernel_rfl) (by simp) ?_
                        refine AllReadyH.cons rfl (fun K hK => ?_) AllReadyH.nil
                        · go_simp
                          go_at_call 15
                          refine (CM.out _).mono ?_
                          rintro r V1 ⟨rfl, hb1⟩
                          have S_V1 := S_W0.keep hb1
                          try dsimp only
                          refine hK.out _ _ S_V1 (fun _ => ?_)
                          clear hK K
                          refine wpAnyH_take (i := 15) (oi := ⟨some 76, _, _, _, _, _⟩) (v := .bool false) rfl (by kernel_rfl) (by kernel_rfl) (by kernel_rfl) (fun _ _ _ h => h) (Or.inl ⟨by rfl, by intro wx _; go_simp⟩) (by assumption) ?_
                          try simp only [Act.put, List.setIfInBounds_toArray, List.set_cons_zero, List.set_cons_succ]
                          refine wpAnyH_take (i := 16) (oi := ⟨some 77, _, _, _, _, _⟩) (v := .bool false) rfl (by kernel_rfl) (by kernel_rfl) (by kernel_rfl) (fun _ _ _ h => h) (Or.inl ⟨by rfl, by intro wx _; go_simp⟩) (by assumption) ?_
                          try simp only [Act.put, List.setIfInBounds_toArray, List.set_cons_zero, List.set_cons_succ]
                          refine wpAnyH_done (by kernel_rfl) ?_ _
                          have S := Lib.hid S_V1
                          go_wp2_with fail
                          go_roundw
                          case rel => exact ⟨i + 1, by go_num, by omega, by rw [H1.out, H2.out]; exact S⟩
                          case measure => simp [intOf] <;> omega
                · have H1 := Lib.hid (hT1.trans (if_neg (fun e => hv1 e.2)))
                  clear hT1
                  have t5 : decide ((0 : Int) < cmpI pv X) = false := by rw [cmp_gt]; exact decide_eq_false hv1
                  have CM := Lib.hid (CMp.out)
                  generalize cmpI pv X = cm at *
                  have S_W0 := S.out.drew
                  refine wp_region_held_drew (S := SQ (LX gx a7 a8 sa sb X Y) w) (by kernel_rfl) S_W0 (fun hHeld => ?_)
                  generalize World.drew _ = W0 at *
                  clear hHeld S
                  refine wpAnyH_take (i := 0) (oi := ⟨some 38, _, _, _, _, _⟩) (v := .slice (some ⟨b, o, none⟩) rows.length c) rfl (by kernel_rfl) (by kernel_rfl) (by kernel_rfl) (fun _ _ _ h => h) (Or.inl ⟨by rfl, by intro wx _; go_simp⟩) (by assumption) ?_
                  try simp only [Act.put, List.setIfInBounds_toArray, List.set_cons_zero, List.set_cons_succ]
                  refine wpAnyH_take (i := 1) (oi := ⟨some 39, _, _, _, _, _⟩) (v := .int .i64 (i : Int)) rfl (by kernel_rfl) (by kernel_rfl) (by kernel_rfl) (fun _ _ _ h => h) (Or.inl ⟨by rfl, by intro wx _; go_simp⟩) (by assumption) ?_
                  try simp only [Act.put, List.setIfInBounds_toArray, List.set_cons_zero, List.set_cons_succ]
                  refine wpAnyH_take (i := 2) (oi := ⟨some 40, _, _, _, _, _⟩) (v := .pointer (some ⟨b, o + i * 15, none⟩)) rfl (by kernel_rfl) (by kernel_rfl) (by kernel_rfl) (fun _ _ _ h => h) (Or.inl ⟨by rfl, by intro wx _; go_simp⟩) (by assumption) ?_
                  try simp only [Act.put, List.setIfInBounds_toArray, List.set_cons_zero, List.set_cons_succ]
                  refine wpAnyH_take (i := 3) (oi := ⟨some 41, _, _, _, _, _⟩) (v := .pointer (some ⟨b, o + i * 15 + 1, none⟩)) rfl (by kernel_rfl) (by kernel_rfl) (by kernel_rfl) (fun _ _ _ h => h) (Or.inl ⟨by rfl, by intro wx _; go_simp⟩) (by assumption) ?_
                  try simp only [Act.put, List.setIfInBounds_toArray, List.set_cons_zero, List.set_cons_succ]
                  refine wpAnyH_take (i := 4) (oi := ⟨some 42, _, _, _, _, _⟩) (v := .pointer (some ⟨b, o + i * 15 + 1 + 1, none⟩)) rfl (by kernel_rfl) (by kernel_rfl) (by kernel_rfl) (fun _ _ _ h => h) (Or.inl ⟨by rfl, by intro wx _; go_simp⟩) (by assumption) ?_
                  try simp only [Act.put, List.setIfInBounds_toArray, List.set_cons_zero, List.set_cons_succ]
                  refine wpAnyH_take (i := 5) (oi := ⟨some 43, _, _, _, _, _⟩) (v := .bool true) rfl (by kernel_rfl) (by kernel_rfl) (by kernel_rfl) (fun _ _ _ h => h) (yield_load (by rfl) (by rfl) (by rfl) (fun wx hx => ld_b2 (hf1 (ro1 (HQ.out wx hx.2))))) (by assumption) ?_
                  try simp only [Act.put, List.setIfInBounds_toArray, List.set_cons_zero, List.set_cons_succ]
                  refine wpAnyH_take (i := 6) (oi := ⟨some 44, _, _, _, _, _⟩) (v := .bool true) rfl (by kernel_rfl) (by kernel_rfl) (by kernel_rfl) (fun _ _ _ h => h) (Or.inl ⟨by rfl, by intro wx _; go_simp⟩) (by assumption) ?_
                  try simp only [Act.put, List.setIfInBounds_toArray, List.set_cons_zero, List.set_cons_succ]
                  refine wpAnyH_take (i := 7) (oi := ⟨some 45, _, _, _, _, _⟩) (v := .slice (some ⟨b, o, none⟩) rows.length c) rfl (by kernel_rfl) (by kernel_rfl) (by kernel_rfl) (fun _ _ _ h => h) (Or.inl ⟨by rfl, by intro wx _; go_simp⟩) (by assumption) ?_
                  try simp only [Act.put, List.setIfInBounds_toArray, List.set_cons_zero, List.set_cons_succ]
                  refine wpAnyH_take (i := 8) (oi := ⟨some 46, _, _, _, _, _⟩) (v := .int .i64 (i : Int)) rfl (by kernel_rfl) (by kernel_rfl) (by kernel_rfl) (fun _ _ _ h => h) (Or.inl ⟨by rfl, by intro wx _; go_simp⟩) (by assumption) ?_
                  try simp only [Act.put, List.setIfInBounds_toArray, List.set_cons_zero, List.set_cons_succ]
                  refine wpAnyH_take (i := 9) (oi := ⟨some 47, _, _, _, _, _⟩) (v := .pointer (some ⟨b, o + i * 15, none⟩)) rfl (by kernel_rfl) (by kernel_rfl) (by kernel_rfl) (fun _ _ _ h => h) (Or.inl ⟨by rfl, by intro wx _; go_simp⟩) (by assumption) ?_
                  try simp only [Act.put, List.setIfInBounds_toArray, List.set_cons_zero, List.set_cons_succ]
                  refine wpAnyH_take (i := 10) (oi := ⟨some 48, _, _, _, _, _⟩) (v := .pointer (some ⟨b, o + i * 15 + 1, none⟩)) rfl (by kernel_rfl) (by kernel_rfl) (by kernel_rfl) (fun _ _ _ h => h) (Or.inl ⟨by rfl, by intro wx _; go_simp⟩) (by assumption) ?_
                  try simp only [Act.put, List.setIfInBounds_toArray, List.set_cons_zero, List.set_cons_succ]
                  refine wpAnyH_take (i := 11) (oi := ⟨some 49, _, _, _, _, _⟩) (v := .pointer (some ⟨b, o + i * 15 + 1 + 2, none⟩)) rfl (by kernel_rfl) (by kernel_rfl) (by kernel_rfl) (fun _ _ _ h => h) (Or.inl ⟨by rfl, by intro wx _; go_simp⟩) (by assumption) ?_
                  try simp only [Act.put, List.setIfInBounds_toArray, List.set_cons_zero, List.set_cons_succ]
                  refine wpAnyH_take (i := 12) (oi := ⟨some 50, _, _, _, _, _⟩) (v := .agg (FC 5 (lb pv)).toArray) rfl (by kernel_rfl) (by kernel_rfl) (by kernel_rfl) (fun _ _ _ h => h) (yield_load (by rfl) (by rfl) (by rfl) (fun wx hx => ldN (hf2 (ro1 (HQ.out wx hx.2))))) (by assumption) ?_
                  try simp only [Act.put, List.setIfInBounds_toArray, List.set_cons_zero, List.set_cons_succ]
                  refine wpAnyH_take (i := 13) (oi := ⟨some 51, _, _, _, _, _⟩) (v := .agg (FC 5 (lb X)).toArray) rfl (by kernel_rfl) (by kernel_rfl) (by kernel_rfl) (fun _ _ _ h => h) (yield_load (by rfl) (by rfl) (by rfl) (fun wx hx => ldNB (LX.x hx))) (by assumption) ?_
                  try simp only [Act.put, List.setIfInBounds_toArray, List.set_cons_zero, List.set_cons_succ]
                  refine wpAnyH_ready (rs := [14]) (by kernel_rfl) (by simp) ?_
                  refine AllReadyH.cons rfl (fun K hK => ?_) AllReadyH.nil
                  · go_simp
                    go_at_call 15
                    refine (CM.out _).mono ?_
                    rintro r V1 ⟨rfl, hb1⟩
                    have S_V1 := S_W0.keep hb1
                    try dsimp only
                    refine hK.out _ _ S_V1 (fun _ => ?_)
                    clear hK K
                    refine wpAnyH_take (i := 15) (oi := ⟨some 53, _, _, _, _, _⟩) (v := .bool false) rfl (by kernel_rfl) (by kernel_rfl) (by kernel_rfl) (fun _ _ _ h => h) (Or.inl ⟨by rfl, by intro wx _; go_simp⟩) (by assumption) ?_
                    try simp only [Act.put, List.setIfInBounds_toArray, List.set_cons_zero, List.set_cons_succ]
                    refine wpAnyH_take (i := 16) (oi := ⟨some 54, _, _, _, _, _⟩) (v := .bool false) rfl (by kernel_rfl) (by kernel_rfl) (by kernel_rfl) (fun _ _ _ h => h) (Or.inl ⟨by rfl, by intro wx _; go_simp⟩) (by assumption) ?_
                    try simp only [Act.put, List.setIfInBounds_toArray, List.set_cons_zero, List.set_cons_succ]
                    refine wpAnyH_done (by kernel_rfl) ?_ _
                    have S := Lib.hid S_V1
                    clear S_V1
                    go_upto_region 10 with fail
                    clear CM t5
                    cases qm with
                    | false =>
                      have H2 := Lib.hid (hT2.trans (if_neg (fun e => Bool.noConfusion e.1)))
                      clear hT2
                      have S_W0 := S.out.drew
                      refine wp_region_held_drew (S := SQ (LX gx a7 a8 sa sb X Y) w) (by kernel_rfl) S_W0 (fun hHeld => ?_)
                      generalize World.drew _ = W0 at *
                      clear hHeld S
                      refine wpAnyH_take (i := 0) (oi := ⟨some 61, _, _, _, _, _⟩) (v := .slice (some ⟨b, o, none⟩) rows.length c) rfl (by kernel_rfl) (by kernel_rfl) (by kernel_rfl) (fun _ _ _ h => h) (Or.inl ⟨by rfl, by intro wx _; go_simp⟩) (by assumption) ?_
                      try simp only [Act.put, List.setIfInBounds_toArray, List.set_cons_zero, List.set_cons_succ]
                      refine wpAnyH_take (i := 1) (oi := ⟨some 62, _, _, _, _, _⟩) (v := .int .i64 (i : Int)) rfl (by kernel_rfl) (by kernel_rfl) (by kernel_rfl) (fun _ _ _ h => h) (Or.inl ⟨by rfl, by intro wx _; go_simp⟩) (by assumption) ?_
                      try simp only [Act.put, List.setIfInBounds_toArray, List.set_cons_zero, List.set_cons_succ]
                      refine wpAnyH_take (i := 2) (oi := ⟨some 63, _, _, _, _, _⟩) (v := .pointer (some ⟨b, o + i * 15, none⟩)) rfl (by kernel_rfl) (by kernel_rfl) (by kernel_rfl) (fun _ _ _ h => h) (Or.inl ⟨by rfl, by intro wx _; go_simp⟩) (by assumption) ?_
                      try simp only [Act.put, List.setIfInBounds_toArray, List.set_cons_zero, List.set_cons_succ]
                      refine wpAnyH_take (i := 3) (oi := ⟨some 64, _, _, _, _, _⟩) (v := .pointer (some ⟨b, o + i * 15 + 8, none⟩)) rfl (by kernel_rfl) (by kernel_rfl) (by kernel_rfl) (fun _ _ _ h => h) (Or.inl ⟨by rfl, by intro wx _; go_simp⟩) (by assumption) ?_
                      try simp only [Act.put, List.setIfInBounds_toArray, List.set_cons_zero, List.set_cons_succ]
                      refine wpAnyH_take (i := 4) (oi := ⟨some 65, _, _, _, _, _⟩) (v := .pointer (some ⟨b, o + i * 15 + 8 + 1, none⟩)) rfl (by kernel_rfl) (by kernel_rfl) (by kernel_rfl) (fun _ _ _ h => h) (Or.inl ⟨by rfl, by intro wx _; go_simp⟩) (by assumption) ?_
                      try simp only [Act.put, List.setIfInBounds_toArray, List.set_cons_zero, List.set_cons_succ]
                      refine wpAnyH_take (i := 5) (oi := ⟨some 66, _, _, _, _, _⟩) (v := .bool false) rfl (by kernel_rfl) (by kernel_rfl) (by kernel_rfl) (fun _ _ _ h => h) (yield_load (by rfl) (by rfl) (by rfl) (fun wx hx => ld_b2 (hf1 (ro2 (HQ.out wx hx.2))))) (by assumption) ?_
                      try simp only [Act.put, List.setIfInBounds_toArray, List.set_cons_zero, List.set_cons_succ]
                      refine wpAnyH_take (i := 6) (oi := ⟨some 67, _, _, _, _, _⟩) (v := .bool false) rfl (by kernel_rfl) (by kernel_rfl) (by kernel_rfl) (fun _ _ _ h => h) (Or.inl ⟨by rfl, by intro wx _; go_simp⟩) (by assumption) ?_
                      try simp only [Act.put, List.setIfInBounds_toArray, List.set_cons_zero, List.set_cons_succ]
                      refine wpAnyH_take (i := 7) (oi := ⟨some 68, _, _, _, _, _⟩) (v := undef) rfl (by kernel_rfl) (by kernel_rfl) (by kernel_rfl) (fun _ _ _ h => h) (Or.inr ⟨by rfl, rfl⟩) (by assumption) ?_
                      try simp only [Act.put, List.setIfInBounds_toArray, List.set_cons_zero, List.set_cons_succ]
                      refine wpAnyH_take (i := 8) (oi := ⟨some 69, _, _, _, _, _⟩) (v := undef) rfl (by kernel_rfl) (by kernel_rfl) (by kernel_rfl) (fun _ _ _ h => h) (Or.inr ⟨by rfl, rfl⟩) (by assumption) ?_
                      try simp only [Act.put, List.setIfInBounds_toArray, List.set_cons_zero, List.set_cons_succ]
                      refine wpAnyH_take (i := 9) (oi := ⟨some 70, _, _, _, _, _⟩) (v := undef) rfl (by kernel_rfl) (by kernel_rfl) (by kernel_rfl) (fun _ _ _ h => h) (Or.inr ⟨by rfl, rfl⟩) (by assumption) ?_
                      try simp only [Act.put, List.setIfInBounds_toArray, List.set_cons_zero, List.set_cons_succ]
                      refine wpAnyH_take (i := 10) (oi := ⟨some 71, _, _, _, _, _⟩) (v := undef) rfl (by kernel_rfl) (by kernel_rfl) (by kernel_rfl) (fun _ _ _ h => h) (Or.inr ⟨by rfl, rfl⟩) (by assumption) ?_
                      try simp only [Act.put, List.setIfInBounds_toArray, List.set_cons_zero, List.set_cons_succ]
                      refine wpAnyH_take (i := 11) (oi := ⟨some 72, _, _, _, _, _⟩) (v := undef) rfl (by kernel_rfl) (by kernel_rfl) (by kernel_rfl) (fun _ _ _ h => h) (Or.inr ⟨by rfl, rfl⟩) (by assumption) ?_
                      try simp only [Act.put, List.setIfInBounds_toArray, List.set_cons_zero, List.set_cons_succ]
                      refine wpAnyH_take (i := 12) (oi := ⟨some 73, _, _, _, _, _⟩) (v := undef) rfl (by kernel_rfl) (by kernel_rfl) (by kernel_rfl) (fun _ _ _ h => h) (Or.inr ⟨by rfl, rfl⟩) (by assumption) ?_
                      try simp only [Act.put, List.setIfInBounds_toArray, List.set_cons_zero, List.set_cons_succ]
                      refine wpAnyH_take (i := 13) (oi := ⟨some 74, _, _, _, _, _⟩) (v := undef) rfl (by kernel_rfl) (by kernel_rfl) (by kernel_rfl) (fun _ _ _ h => h) (Or.inr ⟨by rfl, rfl⟩) (by assumption) ?_
                      try simp only [Act.put, List.setIfInBounds_toArray, List.set_cons_zero, List.set_cons_succ]
                      refine wpAnyH_take (i := 14) (oi := ⟨some 75, _, _, _, _, _⟩) (v := undef) rfl (by kernel_rfl) (by kernel_rfl) (by kernel_rfl) (fun _ _ _ h => h) (Or.inr ⟨by rfl, rfl⟩) (by assumption) ?_
                      try simp only [Act.put, List.setIfInBounds_toArray, List.set_cons_zero, List.set_cons_succ]
                      refine wpAnyH_take (i := 15) (oi := ⟨some 76, _, _, _, _, _⟩) (v := undef) rfl (by kernel_rfl) (by kernel_rfl) (by kernel_rfl) (fun _ _ _ h => h) (Or.inr ⟨by rfl, rfl⟩) (by assumption) ?_
                      try simp only [Act.put, List.setIfInBounds_toArray, List.set_cons_zero, List.set_cons_succ]
                      refine wpAnyH_take (i := 16) (oi := ⟨some 77, _, _, _, _, _⟩) (v := .bool false) rfl (by kernel_rfl) (by kernel_rfl) (by kernel_rfl) (fun _ _ _ h => h) (Or.inl ⟨by rfl, by intro wx _; go_simp⟩) (by assumption) ?_
                      try simp only [Act.put, List.setIfInBounds_toArray, List.set_cons_zero, List.set_cons_succ]
                      refine wpAnyH_done (by kernel_rfl) ?_ _
                      have S := Lib.hid S_W0
                      go_wp2_with fail
                      go_roundw
                      case rel => exact ⟨i + 1, by go_num, by omega, by rw [H1.out, H2.out]; exact S⟩
                      case measure => simp [intOf] <;> omega
                    | true =>
                      by_cases hv2 : Y < qv
                      · have H2 := Lib.hid (hT2.trans (if_pos ⟨rfl, hv2⟩))
                        clear hT2
                        have t6 : decide ((0 : Int) < cmpI qv Y) = true := by rw [cmp_gt]; exact decide_eq_true hv2
                        have CM := Lib.hid (CMq.out)
                        generalize cmpI qv Y = cm at *
                        have S_W0 := S.out.drew
                        refine wp_region_held_drew (S := SQ (LX gx a7 a8 sa sb X Y) w) (by kernel_rfl) S_W0 (fun hHeld => ?_)
                        generalize World.drew _ = W0 at *
                        clear hHeld S
                        refine wpAnyH_take (i := 0) (oi := ⟨some 61, _, _, _, _, _⟩) (v := .slice (some ⟨b, o, none⟩) rows.length c) rfl (by kernel_rfl) (by kernel_rfl) (by kernel_rfl) (fun _ _ _ h => h) (Or.inl ⟨by rfl, by intro wx _; go_simp⟩) (by assumption) ?_
                        try simp only [Act.put, List.setIfInBounds_toArray, List.set_cons_zero, List.set_cons_succ]
                        refine wpAnyH_take (i := 1) (oi := ⟨some 62, _, _, _, _, _⟩) (v := .int .i64 (i : Int)) rfl (by kernel_rfl) (by kernel_rfl) (by kernel_rfl) (fun _ _ _ h => h) (Or.inl ⟨by rfl, by intro wx _; go_simp⟩) (by assumption) ?_
                        try simp only [Act.put, List.setIfInBounds_toArray, List.set_cons_zero, List.set_cons_succ]
                        refine wpAnyH_take (i := 2) (oi := ⟨some 63, _, _, _, _, _⟩) (v := .pointer (some ⟨b, o + i * 15, none⟩)) rfl (by kernel_rfl) (by kernel_rfl) (by kernel_rfl) (fun _ _ _ h => h) (Or.inl ⟨by rfl, by intro wx _; go_simp⟩) (by assumption) ?_
                        try simp only [Act.put, List.setIfInBounds_toArray, List.set_cons_zero, List.set_cons_succ]
                        refine wpAnyH_take (i := 3) (oi := ⟨some 64, _, _, _, _, _⟩) (v := .pointer (some ⟨b, o + i * 15 + 8, none⟩)) rfl (by kernel_rfl) (by kernel_rfl) (by kernel_rfl) (fun _ _ _ h => h) (Or.inl ⟨by rfl, by intro wx _; go_simp⟩) (by assumption) ?_
                        try simp only [Act.put, List.setIfInBounds_toArray, List.set_cons_zero, List.set_cons_succ]
                        refine wpAnyH_take (i := 4) (oi := ⟨some 65, _, _, _, _, _⟩) (v := .pointer (some ⟨b, o + i * 15 + 8 + 1, none⟩)) rfl (by kernel_rfl) (by kernel_rfl) (by kernel_rfl) (fun _ _ _ h => h) (Or.inl ⟨by rfl, by intro wx _; go_simp⟩) (by assumption) ?_
                        try simp only [Act.put, List.setIfInBounds_toArray, List.set_cons_zero, List.set_cons_succ]
                        refine wpAnyH_take (i := 5) (oi := ⟨some 66, _, _, _, _, _⟩) (v := .bool true) rfl (by kernel_rfl) (by kernel_rfl) (by kernel_rfl) (fun _ _ _ h => h) (yield_load (by rfl) (by rfl) (by rfl) (fun wx hx => ld_b2 (hf1 (ro2 (HQ.out wx hx.2))))) (by assumption) ?_
                        try simp only [Act.put, List.setIfInBounds_toArray, List.set_cons_zero, List.set_cons_succ]
                        refine wpAnyH_take (i := 6) (oi := ⟨some 67, _, _, _, _, _⟩) (v := .bool true) rfl (by kernel_rfl) (by kernel_rfl) (by kernel_rfl) (fun _ _ _ h => h) (Or.inl ⟨by rfl, by intro wx _; go_simp⟩) (by assumption) ?_
                        try simp only [Act.put, List.setIfInBounds_toArray, List.set_cons_zero, List.set_cons_succ]
                        refine wpAnyH_take (i := 7) (oi := ⟨some 68, _, _, _, _, _⟩) (v := .slice (some ⟨b, o, none⟩) rows.length c) rfl (by kernel_rfl) (by kernel_rfl) (by kernel_rfl) (fun _ _ _ h => h) (Or.inl ⟨by rfl, by intro wx _; go_simp⟩) (by assumption) ?_
                        try simp only [Act.put, List.setIfInBounds_toArray, List.set_cons_zero, List.set_cons_succ]
                        refine wpAnyH_take (i := 8) (oi := ⟨some 69, _, _, _, _, _⟩) (v := .int .i64 (i : Int)) rfl (by kernel_rfl) (by kernel_rfl) (by kernel_rfl) (fun _ _ _ h => h) (Or.inl ⟨by rfl, by intro wx _; go_simp⟩) (by assumption) ?_
                        try simp only [Act.put, List.setIfInBounds_toArray, List.set_cons_zero, List.set_cons_succ]
                        refine wpAnyH_take (i := 9) (oi := ⟨some 70, _, _, _, _, _⟩) (v := .pointer (some ⟨b, o + i * 15, none⟩)) rfl (by kernel_rfl) (by kernel_rfl) (by kernel_rfl) (fun _ _ _ h => h) (Or.inl ⟨by rfl, by intro wx _; go_simp⟩) (by assumption) ?_
                        try simp only [Act.put, List.setIfInBounds_toArray, List.set_cons_zero, List.set_cons_succ]
                        refine wpAnyH_take (i := 10) (oi := ⟨some 71, _, _, _, _, _⟩) (v := .pointer (some ⟨b, o + i * 15 + 8, none⟩)) rfl (by kernel_rfl) (by kernel_rfl) (by kernel_rfl) (fun _ _ _ h => h) (Or.inl ⟨by rfl, by intro wx _; go_simp⟩) (by assumption) ?_
                        try simp only [Act.put, List.setIfInBounds_toArray, List.set_cons_zero, List.set_cons_succ]
                        refine wpAnyH_take (i := 11) (oi := ⟨some 72, _, _, _, _, _⟩) (v := .pointer (some ⟨b, o + i * 15 + 8 + 2, none⟩)) rfl (by kernel_rfl) (by kernel_rfl) (by kernel_rfl) (fun _ _ _ h => h) (Or.inl ⟨by rfl, by intro wx _; go_simp⟩) (by assumption) ?_
                        try simp only [Act.put, List.setIfInBounds_toArray, List.set_cons_zero, List.set_cons_succ]
                        refine wpAnyH_take (i := 12) (oi := ⟨some 73, _, _, _, _, _⟩) (v := .agg (FC 5 (lb qv)).toArray) rfl (by kernel_rfl) (by kernel_rfl) (by kernel_rfl) (fun _ _ _ h => h) (yield_load (by rfl) (by rfl) (by rfl) (fun wx hx => ldN (hf2 (ro2 (HQ.out wx hx.2))))) (by assumption) ?_
                        try simp only [Act.put, List.setIfInBounds_toArray, List.set_cons_zero, List.set_cons_succ]
                        refine wpAnyH_take (i := 13) (oi := ⟨some 74, _, _, _, _, _⟩) (v := .agg (FC 5 (lb Y)).toArray) rfl (by kernel_rfl) (by kernel_rfl) (by kernel_rfl) (fun _ _ _ h => h) (yield_load (by rfl) (by rfl) (by rfl) (fun wx hx => ldNB (LX.y hx))) (by assumption) ?_
                        try simp only [Act.put, List.setIfInBounds_toArray, List.set_cons_zero, List.set_cons_succ]
                        refine wpAnyH_ready (rs := [14]) (by kernel_rfl) (by simp) ?_
                        refine AllReadyH.cons rfl (fun K hK => ?_) AllReadyH.nil
                        · go_simp
                          go_at_call 15
                          refine (CM.out _).mono ?_
                          rintro r V1 ⟨rfl, hb1⟩
                          have S_V1 := S_W0.keep hb1
                          try dsimp only
                          refine hK.out _ _ S_V1 (fun _ => ?_)
                          clear hK K
                          refine wpAnyH_take (i := 15) (oi := ⟨some 76, _, _, _, _, _⟩) (v := .bool true) rfl (by kernel_rfl) (by kernel_rfl) (by kernel_rfl) (fun _ _ _ h => h) (Or.inl ⟨by rfl, by intro wx _; go_simp⟩) (by assumption) ?_
                          try simp only [Act.put, List.setIfInBounds_toArray, List.set_cons_zero, List.set_cons_succ]
                          refine wpAnyH_take (i := 16) (oi := ⟨some 77, _, _, _, _, _⟩) (v := .bool true) rfl (by kernel_rfl) (by kernel_rfl) (by kernel_rfl) (fun _ _ _ h => h) (Or.inl ⟨by rfl, by intro wx _; go_simp⟩) (by assumption) ?_
                          try simp only [Act.put, List.setIfInBounds_toArray, List.set_cons_zero, List.set_cons_succ]
                          refine wpAnyH_done (by kernel_rfl) ?_ _
                          have L9 := Lib.hid (ldN (hf2 (ro2 (HQ.out _ S_V1.2))))
                          have ST := Lib.hid (st_n (Y := qv) (LX.y S_V1))
                          have S := Lib.hid (LX.putY S_V1 HG.out qv)
                          go_wp2_with (first | (refine wpList_loadg (by rfl) 26 (.tmp 82) (by rfl) _ (by rfl) _ L9.out ?_) | (refine wpList_st (by rfl) (.tmp 10) (.tmp 83) (by rfl) _ (by rfl) _ (by rfl) ST.out ?_))
                          generalize World.setRow _ _ _ = W8 at *
                          go_roundw
                          case rel => exact ⟨i + 1, by go_num, by omega, by rw [H1.out, H2.out]; exact S⟩
                          case measure => simp [intOf] <;> omega
                      · have H2 := Lib.hid (hT2.trans (if_neg (fun e => hv2 e.2)))
                        clear hT2
                        have t6 : decide ((0 : Int) < cmpI qv Y) = false := by rw [cmp_gt]; exact decide_eq_false hv2
                        have CM := Lib.hid (CMq.out)
                        generalize cmpI qv Y = cm at *
                        have S_W0 := S.out.drew
                        refine wp_region_held_drew (S := SQ (LX gx a7 a8 sa sb X Y) w) (by kernel_rfl) S_W0 (fun hHeld => ?_)
                        generalize World.drew _ = W0 at *
                        clear hHeld S
                        refine wpAnyH_take (i := 0) (oi := ⟨some 61, _, _, _, _, _⟩) (v := .slice (some ⟨b, o, none⟩) rows.length c) rfl (by kernel_rfl) (by kernel_rfl) (by kernel_rfl) (fun _ _ _ h => h) (Or.inl ⟨by rfl, by intro wx _; go_simp⟩) (by assumption) ?_
                        try simp only [Act.put, List.setIfInBounds_toArray, List.set_cons_zero, List.set_cons_succ]
                        refine wpAnyH_take (i := 1) (oi := ⟨some 62, _, _, _, _, _⟩) (v := .int .i64 (i : Int)) rfl (by kernel_rfl) (by kernel_rfl) (by kernel_rfl) (fun _ _ _ h => h) (Or.inl ⟨by rfl, by intro wx _; go_simp⟩) (by assumption) ?_
                        try simp only [Act.put, List.setIfInBounds_toArray, List.set_cons_zero, List.set_cons_succ]
                        refine wpAnyH_take (i := 2) (oi := ⟨some 63, _, _, _, _, _⟩) (v := .pointer (some ⟨b, o + i * 15, none⟩)) rfl (by kernel_rfl) (by kernel_rfl) (by kernel_rfl) (fun _ _ _ h => h) (Or.inl ⟨by rfl, by intro wx _; go_simp⟩) (by assumption) ?_
                        try simp only [Act.put, List.setIfInBounds_toArray, List.set_cons_zero, List.set_cons_succ]
                        refine wpAnyH_take (i := 3) (oi := ⟨some 64, _, _, _, _, _⟩) (v := .pointer (some ⟨b, o + i * 15 + 8, none⟩)) rfl (by kernel_rfl) (by kernel_rfl) (by kernel_rfl) (fun _ _ _ h => h) (Or.inl ⟨by rfl, by intro wx _; go_simp⟩) (by assumption) ?_
                        try simp only [Act.put, List.setIfInBounds_toArray, List.set_cons_zero, List.set_cons_succ]
                        refine wpAnyH_take (i := 4) (oi := ⟨some 65, _, _, _, _, _⟩) (v := .pointer (some ⟨b, o + i * 15 + 8 + 1, none⟩)) rfl (by kernel_rfl) (by kernel_rfl) (by kernel_rfl) (fun _ _ _ h => h) (Or.inl ⟨by rfl, by intro wx _; go_simp⟩) (by assumption) ?_
                        try simp only [Act.put, List.setIfInBounds_toArray, List.set_cons_zero, List.set_cons_succ]
                        refine wpAnyH_take (i := 5) (oi := ⟨some 66, _, _, _, _, _⟩) (v := .bool true) rfl (by kernel_rfl) (by kernel_rfl) (by kernel_rfl) (fun _ _ _ h => h) (yield_load (by rfl) (by rfl) (by rfl) (fun wx hx => ld_b2 (hf1 (ro2 (HQ.out wx hx.2))))) (by assumption) ?_
                        try simp only [Act.put, List.setIfInBounds_toArray, List.set_cons_zero, List.set_cons_succ]
                        refine wpAnyH_take (i := 6) (oi := ⟨some 67, _, _, _, _, _⟩) (v := .bool true) rfl (by kernel_rfl) (by kernel_rfl) (by kernel_rfl) (fun _ _ _ h => h) (Or.inl ⟨by rfl, by intro wx _; go_simp⟩) (by assumption) ?_
                        try simp only [Act.put, List.setIfInBounds_toArray, List.set_cons_zero, List.set_cons_succ]
                        refine wpAnyH_take (i := 7) (oi := ⟨some 68, _, _, _, _, _⟩) (v := .slice (some ⟨b, o, none⟩) rows.length c) rfl (by kernel_rfl) (by kernel_rfl) (by kernel_rfl) (fun _ _ _ h => h) (Or.inl ⟨by rfl, by intro wx _; go_simp⟩) (by assumption) ?_
                        try simp only [Act.put, List.setIfInBounds_toArray, List.set_cons_zero, List.set_cons_succ]
                        refine wpAnyH_take (i := 8) (oi := ⟨some 69, _, _, _, _, _⟩) (v := .int .i64 (i : Int)) rfl (by kernel_rfl) (by kernel_rfl) (by kernel_rfl) (fun _ _ _ h => h) (Or.inl ⟨by rfl, by intro wx _; go_simp⟩) (by assumption) ?_
                        try simp only [Act.put, List.setIfInBounds_toArray, List.set_cons_zero, List.set_cons_succ]
                        refine wpAnyH_take (i := 9) (oi := ⟨some 70, _, _, _, _, _⟩) (v := .pointer (some ⟨b, o + i * 15, none⟩)) rfl (by kernel_rfl) (by kernel_rfl) (by kernel_rfl) (fun _ _ _ h => h) (Or.inl ⟨by rfl, by intro wx _; go_simp⟩) (by assumption) ?_
                        try simp only [Act.put, List.setIfInBounds_toArray, List.set_cons_zero, List.set_cons_succ]
                        refine wpAnyH_take (i := 10) (oi := ⟨some 71, _, _, _, _, _⟩) (v := .pointer (some ⟨b, o + i * 15 + 8, none⟩)) rfl (by kernel_rfl) (by kernel_rfl) (by kernel_rfl) (fun _ _ _ h => h) (Or.inl ⟨by rfl, by intro wx _; go_simp⟩) (by assumption) ?_
                        try simp only [Act.put, List.setIfInBounds_toArray, List.set_cons_zero, List.set_cons_succ]
                        refine wpAnyH_take (i := 11) (oi := ⟨some 72, _, _, _, _, _⟩) (v := .pointer (some ⟨b, o + i * 15 + 8 + 2, none⟩)) rfl (by kernel_rfl) (by kernel_rfl) (by kernel_rfl) (fun _ _ _ h => h) (Or.inl ⟨by rfl, by intro wx _; go_simp⟩) (by assumption) ?_
                        try simp only [Act.put, List.setIfInBounds_toArray, List.set_cons_zero, List.set_cons_succ]
                        refine wpAnyH_take (i := 12) (oi := ⟨some 73, _, _, _, _, _⟩) (v := .agg (FC 5 (lb qv)).toArray) rfl (by kernel_rfl) (by kernel_rfl) (by kernel_rfl) (fun _ _ _ h => h) (yield_load (by rfl) (by rfl) (by rfl) (fun wx hx => ldN (hf2 (ro2 (HQ.out wx hx.2))))) (by assumption) ?_
                        try simp only [Act.put, List.setIfInBounds_toArray, List.set_cons_zero, List.set_cons_succ]
                        refine wpAnyH_take (i := 13) (oi := ⟨some 74, _, _, _, _, _⟩) (v := .agg (FC 5 (lb Y)).toArray) rfl (by kernel_rfl) (by kernel_rfl) (by kernel_rfl) (fun _ _ _ h => h) (yield_load (by rfl) (by rfl) (by rfl) (fun wx hx => ldNB (LX.y hx))) (by assumption) ?_
                        try simp only [Act.put, List.setIfInBounds_toArray, List.set_cons_zero, List.set_cons_succ]
                        refine wpAnyH_ready (rs := [14]) (by kernel_rfl) (by simp) ?_
                        refine AllReadyH.cons rfl (fun K hK => ?_) AllReadyH.nil
                        · go_simp
                          go_at_call 15
                          refine (CM.out _).mono ?_
                          rintro r V1 ⟨rfl, hb1⟩
                          have S_V1 := S_W0.keep hb1
                          try dsimp only
                          refine hK.out _ _ S_V1 (fun _ => ?_)
                          clear hK K
                          refine wpAnyH_take (i := 15) (oi := ⟨some 76, _, _, _, _, _⟩) (v := .bool false) rfl (by kernel_rfl) (by kernel_rfl) (by kernel_rfl) (fun _ _ _ h => h) (Or.inl ⟨by rfl, by intro wx _; go_simp⟩) (by assumption) ?_
                          try simp only [Act.put, List.setIfInBounds_toArray, List.set_cons_zero, List.set_cons_succ]
                          refine wpAnyH_take (i := 16) (oi := ⟨some 77, _, _, _, _, _⟩) (v := .bool false) rfl (by kernel_rfl) (by kernel_rfl) (by kernel_rfl) (fun _ _ _ h => h) (Or.inl ⟨by rfl, by intro wx _; go_simp⟩) (by assumption) ?_
                          try simp only [Act.put, List.setIfInBounds_toArray, List.set_cons_zero, List.set_cons_succ]
                          refine wpAnyH_done (by kernel_rfl) ?_ _
                          have S := Lib.hid S_V1
                          go_wp2_with fail
                          go_roundw
                          case rel => exact ⟨i + 1, by go_num, by omega, by rw [H1.out, H2.out]; exact S⟩
                          case measure => simp [intOf] <;> omega
              -- ENDROUND
            · obtain rfl : i = rows.length := by omega
              have i1 : decide ((rows.length : Int) < (rows.length : Int)) = false := decide_eq_false (by omega)
              have S4 := Lib.hid (show SQ (LX gx a7 a8 sa sb (argV (sel false) rows 0) (argV (sel true) rows 0)) w wr from by have h := S.out; rwa [List.take_length] at h)
              have hl1 : argV (sel false) rows 0 < (2 ^ 64) ^ 5 := argV_lt (fun r hr => (sel_ok (OK.out r hr) false).1) (Nat.pow_pos (by decide))
              have hl2 : argV (sel true) rows 0 < (2 ^ 64) ^ 5 := argV_lt (fun r hr => (sel_ok (OK.out r hr) true).1) (Nat.pow_pos (by decide))
              have CM := Lib.hid (fun wx => lcmp_calls _ _ wx hl1 hl2)
              have VR := Lib.hid (fun wx (hx : Below w.heap.size w wx) => verdict_calls _ rows wx (HXr.out wx hx) OK.out)
              have VT := Lib.hid (fun v wx (h : SL roC 15 wx v (tabR ia ib za zb m)) => verdict_calls v _ wx h (tab_ok hza.out.1 hza.out.2))
              have TB := Lib.hid (fun wx hx => table_calls _ _ ia ib za zb m wx (HXs.out wx hx).1 (HXs.out wx hx).2)
              have DV := Lib.hid (fun wx hx => dverdict_calls _ _ ia ib za zb m wx (HXs.out wx hx).1 (HXs.out wx hx).2)
              have SC := Lib.hid (scores_calls _ _ ia ib za zb m wr (HXs.out _ S4.out.2).1 (HXs.out _ S4.out.2).2)
              have NO := Lib.hid (@scs_no ia ib za zb m)
              have LT := scs_lt (ia := ia) (ib := ib) (m := m) (za := za) (zb := zb) hza.out.1 hza.out.2
              have La := Lib.hid (ldS2 ((LX.a S4.out).trans (congrArg some HS.out.1)))
              have Lb := Lib.hid (ldS2 ((LX.b S4.out).trans (congrArg some HS.out.2)))
              unfold UV at CM
              rw [ver_tab] at VT
              unfold verV at VR
              clear S HXr HXs OK hza
              generalize dv ia ib za zb m = D at *
              generalize tabR ia ib za zb m = tb at *
              generalize scs ia ib za zb m = sc at *
              generalize argV (sel false) rows 0 = X at *
              generalize argV (sel true) rows 0 = Y at *
              generalize cmpI X Y = cv at *
              obtain ⟨⟨p, l⟩, ⟨q, n⟩, is⟩ := sc
              dsimp only at SC NO LT
              go_wp2_with (first | (refine wpList_loadg (by rfl) 38 (.tmp 7) (by rfl) _ (by rfl) _ La.out ?_) | (refine wpList_loadg (by rfl) 38 (.tmp 8) (by rfl) _ (by rfl) _ Lb.out ?_))
              refine SC.out.mono ?_
              rintro e w5 ⟨rfl, hb5⟩
              have hlx := (Array.getElem?_eq_some_iff.1 (LX.y S4.out)).1
              have hsz : w.heap.size ≤ w5.heap.size := (S4.out.keep hb5).2.size
              have hgl : gx + 1 < w5.heap.size := Nat.lt_of_lt_of_le hlx hb5.size
              have hN : ∀ p ∈ LX gx a7 a8 sa sb X Y, p.1 < w5.heap.size := by
                intro p hp
                have := HG.out
                unfold LX at hp
                simp only [List.mem_cons, List.not_mem_nil, or_false] at hp
                rcases hp with rfl | rfl | rfl | rfl <;> simp only <;> omega
              have S5 := (S4.out.keep hb5).alloc2 (oSc 0 0) (oSc 0 0)
              have ST1 := Lib.hid (st_sc S5.a1 p l)
              have S6 := S5.swap.put (c' := (scC p l).toArray) hsz (by
                intro x hx
                rcases List.mem_cons.1 hx with rfl | hx
                · simp
                · exact Nat.ne_of_lt (hN x hx))
              have ST2 := Lib.hid (st_sc S6.swap.a0 q n)
              have S7 := Lib.hid (S6.swap.put (c' := (scC q n).toArray) (by omega) (by
                intro x hx
                rcases List.mem_cons.1 hx with rfl | hx
                · simp
                · exact Nat.ne_of_lt (Nat.lt_succ_of_lt (hN x hx))))
              have hN := Lib.hid hN
              clear hb5 SC La Lb S4 S5 S6 hlx hgl
              rw [← oSc0] at ST1 ST2 S7
              go_upto_region 13 with (first | (refine wpList_st (by rfl) (.tmp 12) (.tmp 89) (by rfl) _ (by rfl) _ (by rfl) ST1.out ?_) | (refine wpList_st (by rfl) (.tmp 13) (.tmp 90) (by rfl) _ (by rfl) _ (by rfl) ST2.out ?_))
              generalize World.setRow (World.setRow _ _ _) _ _ = W5 at *
              clear ST1 ST2
              have hsz5 : w5.heap.size + 1 < W5.heap.size := (Array.getElem?_eq_some_iff.1 S7.out.a0).1
              have S8 := S7.out.alloc (oSc 0 0)
              have ST3 := Lib.hid (st_sc S8.a0 0 0)
              have S9 := Lib.hid (S8.put (c' := (scC 0 0).toArray) (by omega) (by
                intro x hx
                rcases List.mem_cons.1 hx with rfl | hx
                · exact Nat.ne_of_lt hsz5
                rcases List.mem_cons.1 hx with rfl | hx
                · exact Nat.ne_of_lt (by omega)
                · exact Nat.ne_of_lt (Nat.lt_trans (hN.out x hx) (by omega))))
              clear S8 S7 hN hsz hsz5
              rw [← oSc0] at ST3
              rw [← oSc0] at S9
              go_upto_region 14 with (first | (refine wpList_value (by rfl) (vSc 0 0) (build_S0 (by rfl)) ?_) | (refine wpList_st (by rfl) (.tmp 15) (.tmp 92) (by rfl) _ (by rfl) _ (by rfl) ST3.out ?_))
              generalize World.setRow _ _ _ = W6 at *
              obtain ⟨gz, hgz⟩ : ∃ gz, gz = W5.heap.size := ⟨_, rfl⟩
              obtain ⟨gp, hgp⟩ : ∃ gp, gp = w5.heap.size := ⟨_, rfl⟩
              rw [← hgz, ← hgp] at S9
              rw [← hgz, ← hgp]
              clear hgz hgp ST3 HG
              have QX := Lib.hid (fun wx (hx : SQ ((gz, oSc 0 0) :: (gp + 1, oSc q n) :: (gp, oSc p l) :: LX gx a7 a8 sa sb X Y) w wx) => ldNB (LX.x hx.tail.tail.tail))
              have QY := Lib.hid (fun wx (hx : SQ ((gz, oSc 0 0) :: (gp + 1, oSc q n) :: (gp, oSc p l) :: LX gx a7 a8 sa sb X Y) w wx) => ldNB (LX.y hx.tail.tail.tail))
              have QA := Lib.hid (fun wx (hx : SQ ((gz, oSc 0 0) :: (gp + 1, oSc q n) :: (gp, oSc p l) :: LX gx a7 a8 sa sb X Y) w wx) => ldS2 ((LX.a hx.tail.tail.tail).trans (congrArg some HS.out.1)))
              have QB := Lib.hid (fun wx (hx : SQ ((gz, oSc 0 0) :: (gp + 1, oSc q n) :: (gp, oSc p l) :: LX gx a7 a8 sa sb X Y) w wx) => ldS2 ((LX.b hx.tail.tail.tail).trans (congrArg some HS.out.2)))
              have QP := Lib.hid (fun wx (hx : SQ ((gz, oSc 0 0) :: (gp + 1, oSc q n) :: (gp, oSc p l) :: LX gx a7 a8 sa sb X Y) w wx) => ldSc hx.a2)
              have QZ := Lib.hid (fun wx (hx : SQ ((gz, oSc 0 0) :: (gp + 1, oSc q n) :: (gp, oSc p l) :: LX gx a7 a8 sa sb X Y) w wx) => ldSc hx.a0)
              unfold UV at QX QY
              have R9 := Lib.hid (show SQ ((gz, oSc 0 0) :: (gp + 1, oSc q n) :: (gp, oSc p l) :: LX gx a7 a8 sa sb X Y) w W6 from S9.out)
              obtain ⟨L9, hL9⟩ : ∃ L9, L9 = (gz, oSc 0 0) :: (gp + 1, oSc q n) :: (gp, oSc p l) :: LX gx a7 a8 sa sb X Y := ⟨_, rfl⟩
              rw [← hL9] at R9 QX QY QA QB QP QZ
              clear hL9 HS S9
              cases is with
              | true =>
                have S_W0 := R9.out.drew
                refine wp_region_held_drew (S := SQ L9 w) (by kernel_rfl) S_W0 (fun hHeld => ?_)
                generalize World.drew _ = W0 at *
                clear hHeld R9
                refine wpAnyH_take (i := 0) (oi := ⟨some 93, _, _, _, _, _⟩) (v := .slice A rows.length c) rfl (by kernel_rfl) (by kernel_rfl) (by kernel_rfl) (fun _ _ _ h => h) (Or.inl ⟨by rfl, by intro wx _; go_simp⟩) (by assumption) ?_
                try simp only [Act.put, List.setIfInBounds_toArray, List.set_cons_zero, List.set_cons_succ]
                refine wpAnyH_take (i := 2) (oi := ⟨some 95, _, _, _, _, _⟩) (v := .agg (FC 5 (lb X)).toArray) rfl (by kernel_rfl) (by kernel_rfl) (by kernel_rfl) (fun _ _ _ h => h) (yield_load (by rfl) (by rfl) (by rfl) (fun wx hx => QX.out wx hx)) (by assumption) ?_
                try simp only [Act.put, List.setIfInBounds_toArray, List.set_cons_zero, List.set_cons_succ]
                refine wpAnyH_take (i := 3) (oi := ⟨some 96, _, _, _, _, _⟩) (v := .agg (FC 5 (lb Y)).toArray) rfl (by kernel_rfl) (by kernel_rfl) (by kernel_rfl) (fun _ _ _ h => h) (yield_load (by rfl) (by rfl) (by rfl) (fun wx hx => QY.out wx hx)) (by assumption) ?_
                try simp only [Act.put, List.setIfInBounds_toArray, List.set_cons_zero, List.set_cons_succ]
                refine wpAnyH_ready (rs := [1]) (by kernel_rfl) (by simp) ?_
                refine AllReadyH.cons rfl (fun K hK => ?_) AllReadyH.nil
                · go_simp
                  go_at_call 17
                  refine (VR.out _ S_W0.2).mono ?_
                  rintro r V1 ⟨rfl, hb1⟩
                  have S_V1 := S_W0.keep hb1
                  try dsimp only
                  refine hK.out _ _ S_V1 (fun _ => ?_)
                  clear hK K
                  refine wpAnyH_ready (rs := [4]) (by kernel_rfl) (by simp) ?_
                  refine AllReadyH.cons rfl (fun K hK => ?_) AllReadyH.nil
                  · go_simp
                    go_at_call 15
                    refine (CM.out _).mono ?_
                    rintro r V2 ⟨rfl, hb2⟩
                    have S_V2 := S_V1.keep hb2
                    try dsimp only
                    refine hK.out _ _ S_V2 (fun _ => ?_)
                    clear hK K
                    refine wpAnyH_take (i := 5) (oi := ⟨some 98, _, _, _, _, _⟩) (v := .bool true) rfl (by kernel_rfl) (by kernel_rfl) (by kernel_rfl) (fun _ _ _ h => h) (Or.inl ⟨by rfl, by intro wx _; go_simp⟩) (by assumption) ?_
                    try simp only [Act.put, List.setIfInBounds_toArray, List.set_cons_zero, List.set_cons_succ]
                    refine wpAnyH_take (i := 6) (oi := ⟨some 99, _, _, _, _, _⟩) (v := .bool true) rfl (by kernel_rfl) (by kernel_rfl) (by kernel_rfl) (fun _ _ _ h => h) (Or.inl ⟨by rfl, by intro wx _; go_simp⟩) (by assumption) ?_
                    try simp only [Act.put, List.setIfInBounds_toArray, List.set_cons_zero, List.set_cons_succ]
                    refine wpAnyH_take (i := 7) (oi := ⟨some 100, _, _, _, _, _⟩) (v := .agg #[.slice Ai ia.length ki, .slice Al za.length kl]) rfl (by kernel_rfl) (by kernel_rfl) (by kernel_rfl) (fun _ _ _ h => h) (yield_load (by rfl) (by rfl) (by rfl) (fun wx hx => QA.out wx hx)) (by assumption) ?_
                    try simp only [Act.put, List.setIfInBounds_toArray, List.set_cons_zero, List.set_cons_succ]
                    refine wpAnyH_take (i := 8) (oi := ⟨some 101, _, _, _, _, _⟩) (v := .agg #[.slice Aj ib.length kj, .slice Ak zb.length kk]) rfl (by kernel_rfl) (by kernel_rfl) (by kernel_rfl) (fun _ _ _ h => h) (yield_load (by rfl) (by rfl) (by rfl) (fun wx hx => QB.out wx hx)) (by assumption) ?_
                    try simp only [Act.put, List.setIfInBounds_toArray, List.set_cons_zero, List.set_cons_succ]
                    refine wpAnyH_take (i := 9) (oi := ⟨some 102, _, _, _, _, _⟩) (v := .int .i64 m) rfl (by kernel_rfl) (by kernel_rfl) (by kernel_rfl) (fun _ _ _ h => h) (Or.inl ⟨by rfl, by intro wx _; go_simp⟩) (by assumption) ?_
                    try simp only [Act.put, List.setIfInBounds_toArray, List.set_cons_zero, List.set_cons_succ]
                    refine wpAnyH_take (i := 12) (oi := ⟨some 105, _, _, _, _, _⟩) (v := .agg #[.slice Ai ia.length ki, .slice Al za.length kl]) rfl (by kernel_rfl) (by kernel_rfl) (by kernel_rfl) (fun _ _ _ h => h) (yield_load (by rfl) (by rfl) (by rfl) (fun wx hx => QA.out wx hx)) (by assumption) ?_
                    try simp only [Act.put, List.setIfInBounds_toArray, List.set_cons_zero, List.set_cons_succ]
                    refine wpAnyH_take (i := 13) (oi := ⟨some 106, _, _, _, _, _⟩) (v := .agg #[.slice Aj ib.length kj, .slice Ak zb.length kk]) rfl (by kernel_rfl) (by kernel_rfl) (by kernel_rfl) (fun _ _ _ h => h) (yield_load (by rfl) (by rfl) (by rfl) (fun wx hx => QB.out wx hx)) (by assumption) ?_
                    try simp only [Act.put, List.setIfInBounds_toArray, List.set_cons_zero, List.set_cons_succ]
                    refine wpAnyH_take (i := 14) (oi := ⟨some 107, _, _, _, _, _⟩) (v := .int .i64 m) rfl (by kernel_rfl) (by kernel_rfl) (by kernel_rfl) (fun _ _ _ h => h) (Or.inl ⟨by rfl, by intro wx _; go_simp⟩) (by assumption) ?_
                    try simp only [Act.put, List.setIfInBounds_toArray, List.set_cons_zero, List.set_cons_succ]
                    refine wpAnyH_ready (rs := [10]) (by kernel_rfl) (by simp) ?_
                    refine AllReadyH.cons rfl (fun K hK => ?_) AllReadyH.nil
                    · go_simp
                      go_at_call 11
                      refine (TB.out _ S_V2.2).mono ?_
                      rintro r V3 ⟨v7, rfl, hs7, hb3⟩
                      have T_V3 := hs7
                      have S_V3 := S_V2.keep hb3
                      try dsimp only
                      refine hK.out _ _ S_V3 (fun _ => ?_)
                      clear hK K
                      refine wpAnyH_ready (rs := [11]) (by kernel_rfl) (by simp) ?_
                      refine AllReadyH.cons rfl (fun K hK => ?_) AllReadyH.nil
                      · go_simp
                        go_at_call 17
                        refine (VT.out _ _ T_V3).mono ?_
                        rintro r V4 ⟨rfl, hb4⟩
                        have S_V4 := S_V3.keep hb4
                        have T_V4 := T_V3.below hb4
                        try dsimp only
                        refine hK.out _ _ S_V4 (fun _ => ?_)
                        clear hK K
                        refine wpAnyH_ready (rs := [15]) (by kernel_rfl) (by simp) ?_
                        refine AllReadyH.cons rfl (fun K hK => ?_) AllReadyH.nil
                        · go_simp
                          go_at_call 18
                          refine (DV.out _ S_V4.2).mono ?_
                          rintro r V5 ⟨rfl, hb5⟩
                          have S_V5 := S_V4.keep hb5
                          have T_V5 := T_V4.below hb5
                          try dsimp only
                          refine hK.out _ _ S_V5 (fun _ => ?_)
                          clear hK K
                          refine wpAnyH_take (i := 16) (oi := ⟨some 109, _, _, _, _, _⟩) (v := .bool true) rfl (by kernel_rfl) (by kernel_rfl) (by kernel_rfl) (fun _ _ _ h => h) (Or.inl ⟨by rfl, by intro wx _; go_simp⟩) (by assumption) ?_
                          try simp only [Act.put, List.setIfInBounds_toArray, List.set_cons_zero, List.set_cons_succ]
                          refine wpAnyH_take (i := 17) (oi := ⟨some 110, _, _, _, _, _⟩) (v := .bool true) rfl (by kernel_rfl) (by kernel_rfl) (by kernel_rfl) (fun _ _ _ h => h) (Or.inl ⟨by rfl, by intro wx _; go_simp⟩) (by assumption) ?_
                          try simp only [Act.put, List.setIfInBounds_toArray, List.set_cons_zero, List.set_cons_succ]
                          refine wpAnyH_take (i := 18) (oi := ⟨some 111, _, _, _, _, _⟩) (v := .bool true) rfl (by kernel_rfl) (by kernel_rfl) (by kernel_rfl) (fun _ _ _ h => h) (Or.inl ⟨by rfl, by intro wx _; go_simp⟩) (by assumption) ?_
                          try simp only [Act.put, List.setIfInBounds_toArray, List.set_cons_zero, List.set_cons_succ]
                          refine wpAnyH_take (i := 19) (oi := ⟨some 112, _, _, _, _, _⟩) (v := .bool true) rfl (by kernel_rfl) (by kernel_rfl) (by kernel_rfl) (fun _ _ _ h => h) (Or.inl ⟨by rfl, by intro wx _; go_simp⟩) (by assumption) ?_
                          try simp only [Act.put, List.setIfInBounds_toArray, List.set_cons_zero, List.set_cons_succ]
                          refine wpAnyH_take (i := 20) (oi := ⟨some 113, _, _, _, _, _⟩) (v := .bool true) rfl (by kernel_rfl) (by kernel_rfl) (by kernel_rfl) (fun _ _ _ h => h) (Or.inl ⟨by rfl, by intro wx _; go_simp⟩) (by assumption) ?_
                          try simp only [Act.put, List.setIfInBounds_toArray, List.set_cons_zero, List.set_cons_succ]
                          refine wpAnyH_take (i := 21) (oi := ⟨some 114, _, _, _, _, _⟩) (v := undef) rfl (by kernel_rfl) (by kernel_rfl) (by kernel_rfl) (fun _ _ _ h => h) (Or.inr ⟨by rfl, rfl⟩) (by assumption) ?_
                          try simp only [Act.put, List.setIfInBounds_toArray, List.set_cons_zero, List.set_cons_succ]
                          refine wpAnyH_take (i := 22) (oi := ⟨some 115, _, _, _, _, _⟩) (v := undef) rfl (by kernel_rfl) (by kernel_rfl) (by kernel_rfl) (fun _ _ _ h => h) (Or.inr ⟨by rfl, rfl⟩) (by assumption) ?_
                          try simp only [Act.put, List.setIfInBounds_toArray, List.set_cons_zero, List.set_cons_succ]
                          refine wpAnyH_take (i := 23) (oi := ⟨some 116, _, _, _, _, _⟩) (v := undef) rfl (by kernel_rfl) (by kernel_rfl) (by kernel_rfl) (fun _ _ _ h => h) (Or.inr ⟨by rfl, rfl⟩) (by assumption) ?_
                          try simp only [Act.put, List.setIfInBounds_toArray, List.set_cons_zero, List.set_cons_succ]
                          refine wpAnyH_take (i := 24) (oi := ⟨some 117, _, _, _, _, _⟩) (v := .bool true) rfl (by kernel_rfl) (by kernel_rfl) (by kernel_rfl) (fun _ _ _ h => h) (Or.inl ⟨by rfl, by intro wx _; go_simp⟩) (by assumption) ?_
                          try simp only [Act.put, List.setIfInBounds_toArray, List.set_cons_zero, List.set_cons_succ]
                          refine wpAnyH_take (i := 25) (oi := ⟨some 118, _, _, _, _, _⟩) (v := .bool true) rfl (by kernel_rfl) (by kernel_rfl) (by kernel_rfl) (fun _ _ _ h => h) (Or.inl ⟨by rfl, by intro wx _; go_simp⟩) (by assumption) ?_
                          try simp only [Act.put, List.setIfInBounds_toArray, List.set_cons_zero, List.set_cons_succ]
                          refine wpAnyH_take (i := 26) (oi := ⟨some 119, _, _, _, _, _⟩) (v := .bool true) rfl (by kernel_rfl) (by kernel_rfl) (by kernel_rfl) (fun _ _ _ h => h) (Or.inl ⟨by rfl, by intro wx _; go_simp⟩) (by assumption) ?_
                          try simp only [Act.put, List.setIfInBounds_toArray, List.set_cons_zero, List.set_cons_succ]
                          refine wpAnyH_take (i := 27) (oi := ⟨some 120, _, _, _, _, _⟩) (v := .bool true) rfl (by kernel_rfl) (by kernel_rfl) (by kernel_rfl) (fun _ _ _ h => h) (Or.inl ⟨by rfl, by intro wx _; go_simp⟩) (by assumption) ?_
                          try simp only [Act.put, List.setIfInBounds_toArray, List.set_cons_zero, List.set_cons_succ]
                          refine wpAnyH_take (i := 28) (oi := ⟨some 121, _, _, _, _, _⟩) (v := .bool true) rfl (by kernel_rfl) (by kernel_rfl) (by kernel_rfl) (fun _ _ _ h => h) (Or.inl ⟨by rfl, by intro wx _; go_simp⟩) (by assumption) ?_
                          try simp only [Act.put, List.setIfInBounds_toArray, List.set_cons_zero, List.set_cons_succ]
                          refine wpAnyH_ready (rs := [29]) (by kernel_rfl) (by simp) ?_
                          refine AllReadyH.cons rfl (fun K hK => ?_) AllReadyH.nil
                          · go_simp
                            go_at_call 6
                            refine (HA.out _).mono ?_
                            rintro r V6 ⟨rfl, hb6⟩
                            have S_V6 := S_V5.keep hb6
                            have T_V6 := T_V5.below hb6
                            try dsimp only
                            refine hK.out _ _ S_V6 (fun _ => ?_)
                            clear hK K
                            refine wpAnyH_take (i := 30) (oi := ⟨some 123, _, _, _, _, _⟩) (v := .bool true) rfl (by kernel_rfl) (by kernel_rfl) (by kernel_rfl) (fun _ _ _ h => h) (Or.inl ⟨by rfl, by intro wx _; go_simp⟩) (by assumption) ?_
                            try simp only [Act.put, List.setIfInBounds_toArray, List.set_cons_zero, List.set_cons_succ]
                            refine wpAnyH_take (i := 31) (oi := ⟨some 6, _, _, _, _, _⟩) (v := .bool true) rfl (by kernel_rfl) (by kernel_rfl) (by kernel_rfl) (fun _ _ _ h => h) (Or.inl ⟨by rfl, by intro wx _; go_simp⟩) (by assumption) ?_
                            try simp only [Act.put, List.setIfInBounds_toArray, List.set_cons_zero, List.set_cons_succ]
                            refine wpAnyH_done (by kernel_rfl) ?_ _
                            have B9 := Lib.hid S_V6.2
                            go_wp2_with fail
                            go_ret
                            exact ⟨rfl, B9.out⟩
              | false =>
                cases NO.out rfl
                have S_W0 := R9.out.drew
                refine wp_region_held_drew (S := SQ L9 w) (by kernel_rfl) S_W0 (fun hHeld => ?_)
                generalize World.drew _ = W0 at *
                clear hHeld R9
                refine wpAnyH_take (i := 0) (oi := ⟨some 93, _, _, _, _, _⟩) (v := .slice A rows.length c) rfl (by kernel_rfl) (by kernel_rfl) (by kernel_rfl) (fun _ _ _ h => h) (Or.inl ⟨by rfl, by intro wx _; go_simp⟩) (by assumption) ?_
                try simp only [Act.put, List.setIfInBounds_toArray, List.set_cons_zero, List.set_cons_succ]
                refine wpAnyH_take (i := 2) (oi := ⟨some 95, _, _, _, _, _⟩) (v := .agg (FC 5 (lb X)).toArray) rfl (by kernel_rfl) (by kernel_rfl) (by kernel_rfl) (fun _ _ _ h => h) (yield_load (by rfl) (by rfl) (by rfl) (fun wx hx => QX.out wx hx)) (by assumption) ?_
                try simp only [Act.put, List.setIfInBounds_toArray, List.set_cons_zero, List.set_cons_succ]
                refine wpAnyH_take (i := 3) (oi := ⟨some 96, _, _, _, _, _⟩) (v := .agg (FC 5 (lb Y)).toArray) rfl (by kernel_rfl) (by kernel_rfl) (by kernel_rfl) (fun _ _ _ h => h) (yield_load (by rfl) (by rfl) (by rfl) (fun wx hx => QY.out wx hx)) (by assumption) ?_
                try simp only [Act.put, List.setIfInBounds_toArray, List.set_cons_zero, List.set_cons_succ]
                refine wpAnyH_ready (rs := [1]) (by kernel_rfl) (by simp) ?_
                refine AllReadyH.cons rfl (fun K hK => ?_) AllReadyH.nil
                · go_simp
                  go_at_call 17
                  refine (VR.out _ S_W0.2).mono ?_
                  rintro r V1 ⟨rfl, hb1⟩
                  have S_V1 := S_W0.keep hb1
                  try dsimp only
                  refine hK.out _ _ S_V1 (fun _ => ?_)
                  clear hK K
                  refine wpAnyH_ready (rs := [4]) (by kernel_rfl) (by simp) ?_
                  refine AllReadyH.cons rfl (fun K hK => ?_) AllReadyH.nil
                  · go_simp
                    go_at_call 15
                    refine (CM.out _).mono ?_
                    rintro r V2 ⟨rfl, hb2⟩
                    have S_V2 := S_V1.keep hb2
                    try dsimp only
                    refine hK.out _ _ S_V2 (fun _ => ?_)
                    clear hK K
                    refine wpAnyH_take (i := 5) (oi := ⟨some 98, _, _, _, _, _⟩) (v := .bool true) rfl (by kernel_rfl) (by kernel_rfl) (by kernel_rfl) (fun _ _ _ h => h) (Or.inl ⟨by rfl, by intro wx _; go_simp⟩) (by assumption) ?_
                    try simp only [Act.put, List.setIfInBounds_toArray, List.set_cons_zero, List.set_cons_succ]
                    refine wpAnyH_take (i := 6) (oi := ⟨some 99, _, _, _, _, _⟩) (v := .bool true) rfl (by kernel_rfl) (by kernel_rfl) (by kernel_rfl) (fun _ _ _ h => h) (Or.inl ⟨by rfl, by intro wx _; go_simp⟩) (by assumption) ?_
                    try simp only [Act.put, List.setIfInBounds_toArray, List.set_cons_zero, List.set_cons_succ]
                    refine wpAnyH_take (i := 7) (oi := ⟨some 100, _, _, _, _, _⟩) (v := .agg #[.slice Ai ia.length ki, .slice Al za.length kl]) rfl (by kernel_rfl) (by kernel_rfl) (by kernel_rfl) (fun _ _ _ h => h) (yield_load (by rfl) (by rfl) (by rfl) (fun wx hx => QA.out wx hx)) (by assumption) ?_
                    try simp only [Act.put, List.setIfInBounds_toArray, List.set_cons_zero, List.set_cons_succ]
                    refine wpAnyH_take (i := 8) (oi := ⟨some 101, _, _, _, _, _⟩) (v := .agg #[.slice Aj ib.length kj, .slice Ak zb.length kk]) rfl (by kernel_rfl) (by kernel_rfl) (by kernel_rfl) (fun _ _ _ h => h) (yield_load (by rfl) (by rfl) (by rfl) (fun wx hx => QB.out wx hx)) (by assumption) ?_
                    try simp only [Act.put, List.setIfInBounds_toArray, List.set_cons_zero, List.set_cons_succ]
                    refine wpAnyH_take (i := 9) (oi := ⟨some 102, _, _, _, _, _⟩) (v := .int .i64 m) rfl (by kernel_rfl) (by kernel_rfl) (by kernel_rfl) (fun _ _ _ h => h) (Or.inl ⟨by rfl, by intro wx _; go_simp⟩) (by assumption) ?_
                    try simp only [Act.put, List.setIfInBounds_toArray, List.set_cons_zero, List.set_cons_succ]
                    refine wpAnyH_take (i := 12) (oi := ⟨some 105, _, _, _, _, _⟩) (v := .agg #[.slice Ai ia.length ki, .slice Al za.length kl]) rfl (by kernel_rfl) (by kernel_rfl) (by kernel_rfl) (fun _ _ _ h => h) (yield_load (by rfl) (by rfl) (by rfl) (fun wx hx => QA.out wx hx)) (by assumption) ?_
                    try simp only [Act.put, List.setIfInBounds_toArray, List.set_cons_zero, List.set_cons_succ]
                    refine wpAnyH_take (i := 13) (oi := ⟨some 106, _, _, _, _, _⟩) (v := .agg #[.slice Aj ib.length kj, .slice Ak zb.length kk]) rfl (by kernel_rfl) (by kernel_rfl) (by kernel_rfl) (fun _ _ _ h => h) (yield_load (by rfl) (by rfl) (by rfl) (fun wx hx => QB.out wx hx)) (by assumption) ?_
                    try simp only [Act.put, List.setIfInBounds_toArray, List.set_cons_zero, List.set_cons_succ]
                    refine wpAnyH_take (i := 14) (oi := ⟨some 107, _, _, _, _, _⟩) (v := .int .i64 m) rfl (by kernel_rfl) (by kernel_rfl) (by kernel_rfl) (fun _ _ _ h => h) (Or.inl ⟨by rfl, by intro wx _; go_simp⟩) (by assumption) ?_
                    try simp only [Act.put, List.setIfInBounds_toArray, List.set_cons_zero, List.set_cons_succ]
                    refine wpAnyH_ready (rs := [10]) (by kernel_rfl) (by simp) ?_
                    refine AllReadyH.cons rfl (fun K hK => ?_) AllReadyH.nil
                    · go_simp
                      go_at_call 11
                      refine (TB.out _ S_V2.2).mono ?_
                      rintro r V3 ⟨v7, rfl, hs7, hb3⟩
                      have T_V3 := hs7
                      have S_V3 := S_V2.keep hb3
                      try dsimp only
                      refine hK.out _ _ S_V3 (fun _ => ?_)
                      clear hK K
                      refine wpAnyH_ready (rs := [11]) (by kernel_rfl) (by simp) ?_
                      refine AllReadyH.cons rfl (fun K hK => ?_) AllReadyH.nil
                      · go_simp
                        go_at_call 17
                        refine (VT.out _ _ T_V3).mono ?_
                        rintro r V4 ⟨rfl, hb4⟩
                        have S_V4 := S_V3.keep hb4
                        have T_V4 := T_V3.below hb4
                        try dsimp only
                        refine hK.out _ _ S_V4 (fun _ => ?_)
                        clear hK K
                        refine wpAnyH_ready (rs := [15]) (by kernel_rfl) (by simp) ?_
                        refine AllReadyH.cons rfl (fun K hK => ?_) AllReadyH.nil
                        · go_simp
                          go_at_call 18
                          refine (DV.out _ S_V4.2).mono ?_
                          rintro r V5 ⟨rfl, hb5⟩
                          have S_V5 := S_V4.keep hb5
                          have T_V5 := T_V4.below hb5
                          try dsimp only
                          refine hK.out _ _ S_V5 (fun _ => ?_)
                          clear hK K
                          refine wpAnyH_take (i := 16) (oi := ⟨some 109, _, _, _, _, _⟩) (v := .bool true) rfl (by kernel_rfl) (by kernel_rfl) (by kernel_rfl) (fun _ _ _ h => h) (Or.inl ⟨by rfl, by intro wx _; go_simp⟩) (by assumption) ?_
                          try simp only [Act.put, List.setIfInBounds_toArray, List.set_cons_zero, List.set_cons_succ]
                          refine wpAnyH_take (i := 17) (oi := ⟨some 110, _, _, _, _, _⟩) (v := .bool true) rfl (by kernel_rfl) (by kernel_rfl) (by kernel_rfl) (fun _ _ _ h => h) (Or.inl ⟨by rfl, by intro wx _; go_simp⟩) (by assumption) ?_
                          try simp only [Act.put, List.setIfInBounds_toArray, List.set_cons_zero, List.set_cons_succ]
                          refine wpAnyH_take (i := 18) (oi := ⟨some 111, _, _, _, _, _⟩) (v := .bool true) rfl (by kernel_rfl) (by kernel_rfl) (by kernel_rfl) (fun _ _ _ h => h) (Or.inl ⟨by rfl, by intro wx _; go_simp⟩) (by assumption) ?_
                          try simp only [Act.put, List.setIfInBounds_toArray, List.set_cons_zero, List.set_cons_succ]
                          refine wpAnyH_take (i := 19) (oi := ⟨some 112, _, _, _, _, _⟩) (v := .bool false) rfl (by kernel_rfl) (by kernel_rfl) (by kernel_rfl) (fun _ _ _ h => h) (Or.inl ⟨by rfl, by intro wx _; go_simp⟩) (by assumption) ?_
                          try simp only [Act.put, List.setIfInBounds_toArray, List.set_cons_zero, List.set_cons_succ]
                          refine wpAnyH_take (i := 20) (oi := ⟨some 113, _, _, _, _, _⟩) (v := .bool false) rfl (by kernel_rfl) (by kernel_rfl) (by kernel_rfl) (fun _ _ _ h => h) (Or.inl ⟨by rfl, by intro wx _; go_simp⟩) (by assumption) ?_
                          try simp only [Act.put, List.setIfInBounds_toArray, List.set_cons_zero, List.set_cons_succ]
                          refine wpAnyH_take (i := 21) (oi := ⟨some 114, _, _, _, _, _⟩) (v := vSc 0 0) rfl (by kernel_rfl) (by kernel_rfl) (by kernel_rfl) (fun _ _ _ h => h) (yield_load (by rfl) (by rfl) (by rfl) (fun wx hx => QP.out wx hx)) (by assumption) ?_
                          try simp only [Act.put, List.setIfInBounds_toArray, List.set_cons_zero, List.set_cons_succ]
                          refine wpAnyH_take (i := 22) (oi := ⟨some 115, _, _, _, _, _⟩) (v := vSc 0 0) rfl (by kernel_rfl) (by kernel_rfl) (by kernel_rfl) (fun _ _ _ h => h) (yield_load (by rfl) (by rfl) (by rfl) (fun wx hx => QZ.out wx hx)) (by assumption) ?_
                          try simp only [Act.put, List.setIfInBounds_toArray, List.set_cons_zero, List.set_cons_succ]
                          refine wpAnyH_take (i := 23) (oi := ⟨some 116, _, _, _, _, _⟩) (v := .bool true) rfl (by kernel_rfl) (by kernel_rfl) (by kernel_rfl) (fun _ _ _ h => h) (Or.inl ⟨by rfl, by intro wx _; exact eq_S0 (by rfl) (by rfl) (by rfl)⟩) (by assumption) ?_
                          try simp only [Act.put, List.setIfInBounds_toArray, List.set_cons_zero, List.set_cons_succ]
                          refine wpAnyH_take (i := 24) (oi := ⟨some 117, _, _, _, _, _⟩) (v := .bool true) rfl (by kernel_rfl) (by kernel_rfl) (by kernel_rfl) (fun _ _ _ h => h) (Or.inl ⟨by rfl, by intro wx _; go_simp⟩) (by assumption) ?_
                          try simp only [Act.put, List.setIfInBounds_toArray, List.set_cons_zero, List.set_cons_succ]
                          refine wpAnyH_take (i := 25) (oi := ⟨some 118, _, _, _, _, _⟩) (v := .bool true) rfl (by kernel_rfl) (by kernel_rfl) (by kernel_rfl) (fun _ _ _ h => h) (Or.inl ⟨by rfl, by intro wx _; go_simp⟩) (by assumption) ?_
                          try simp only [Act.put, List.setIfInBounds_toArray, List.set_cons_zero, List.set_cons_succ]
                          refine wpAnyH_take (i := 26) (oi := ⟨some 119, _, _, _, _, _⟩) (v := .bool true) rfl (by kernel_rfl) (by kernel_rfl) (by kernel_rfl) (fun _ _ _ h => h) (Or.inl ⟨by rfl, by intro wx _; go_simp⟩) (by assumption) ?_
                          try simp only [Act.put, List.setIfInBounds_toArray, List.set_cons_zero, List.set_cons_succ]
                          refine wpAnyH_take (i := 27) (oi := ⟨some 120, _, _, _, _, _⟩) (v := .bool true) rfl (by kernel_rfl) (by kernel_rfl) (by kernel_rfl) (fun _ _ _ h => h) (Or.inl ⟨by rfl, by intro wx _; go_simp⟩) (by assumption) ?_
                          try simp only [Act.put, List.setIfInBounds_toArray, List.set_cons_zero, List.set_cons_succ]
                          refine wpAnyH_take (i := 28) (oi := ⟨some 121, _, _, _, _, _⟩) (v := .bool true) rfl (by kernel_rfl) (by kernel_rfl) (by kernel_rfl) (fun _ _ _ h => h) (Or.inl ⟨by rfl, by intro wx _; go_simp⟩) (by assumption) ?_
                          try simp only [Act.put, List.setIfInBounds_toArray, List.set_cons_zero, List.set_cons_succ]
                          refine wpAnyH_ready (rs := [29]) (by kernel_rfl) (by simp) ?_
                          refine AllReadyH.cons rfl (fun K hK => ?_) AllReadyH.nil
                          · go_simp
                            go_at_call 6
                            refine (HA.out _).mono ?_
                            rintro r V6 ⟨rfl, hb6⟩
                            have S_V6 := S_V5.keep hb6
                            have T_V6 := T_V5.below hb6
                            try dsimp only
                            refine hK.out _ _ S_V6 (fun _ => ?_)
                            clear hK K
                            refine wpAnyH_take (i := 30) (oi := ⟨some 123, _, _, _, _, _⟩) (v := .bool true) rfl (by kernel_rfl) (by kernel_rfl) (by kernel_rfl) (fun _ _ _ h => h) (Or.inl ⟨by rfl, by intro wx _; go_simp⟩) (by assumption) ?_
                            try simp only [Act.put, List.setIfInBounds_toArray, List.set_cons_zero, List.set_cons_succ]
                            refine wpAnyH_take (i := 31) (oi := ⟨some 6, _, _, _, _, _⟩) (v := .bool true) rfl (by kernel_rfl) (by kernel_rfl) (by kernel_rfl) (fun _ _ _ h => h) (Or.inl ⟨by rfl, by intro wx _; go_simp⟩) (by assumption) ?_
                            try simp only [Act.put, List.setIfInBounds_toArray, List.set_cons_zero, List.set_cons_succ]
                            refine wpAnyH_done (by kernel_rfl) ?_ _
                            have B9 := Lib.hid S_V6.2
                            go_wp2_with fail
                            go_ret
                            exact ⟨rfl, B9.out⟩
end Go.Proofs.YtihdeanfcbiflaaDoor.Wh
