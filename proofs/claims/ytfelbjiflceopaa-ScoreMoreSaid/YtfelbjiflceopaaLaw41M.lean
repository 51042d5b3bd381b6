/- The walk of chapter 41's law ScoreMore. -/
import Derived.Test.YtfelbjiflceopaaLaw41
import Derived.Test.YtfelbjiflceopaaStepB
import Derived.Test.YtfelbjiflceopaaApz
import Derived.Test.YtfelbjiflceopaaCallR
import Derived.Test.YtfelbjiflceopaaSq
import Derived.Test.YtfelbjiflceopaaEqF
import Derived.Deep.RegionHeld3
namespace Go.Proofs.Ytfelbjiflceopaa.Sc
open Go.RowKit Go.Proofs.Ytfelbjiflceopaa.Mk Go.Proofs.Ytfelbjiflceopaa.Ul Go.Proofs.Ytfelbjiflceopaa.Wi Go.Proofs.Ytfelbjiflceopaa.Lg Go.Proofs.Ytfelbjiflceopaa.Up Go.Proofs.Ytfelbjiflceopaa.R5
def oI3 (x y z : Int) : Obj := .cells #[.int .i64 x, .int .i64 y, .int .i64 z] 40 (0, 0)
def oI2 (x y : Int) : Obj := .cells #[.int .i64 x, .int .i64 y] 41 (0, 0)
abbrev oN5 (X : Nat) : Obj := .cells (FC 5 (lb X)).toArray 26 (0, 0)
theorem cmp_le {x y : Nat} (h : y ≤ x) : 0 ≤ cmpI x y := by unfold cmpI; rw [if_neg (by omega)]; split <;> omega
theorem cmp_ge {x y : Nat} (h : x ≤ y) : cmpI x y ≤ 0 := by
  unfold cmpI
  split
  · omega
  · rw [if_neg (by omega)]; omega
theorem oN5_zero : (.cells #[.int .u64 0, .int .u64 0, .int .u64 0, .int .u64 0, .int .u64 0] 26 (0, 0) : Obj) = oN5 0 := by
  unfold oN5
  rw [lb_zero]
  rfl
theorem field_v {o : Oper} {a : Act} {w : World} {x : Operand} {V L : Nat} (ho : o.op = .field 35 x 0) (hx : a.eval x = vSc V L) : (execOp a.eval o).run Try.prog w = .ok (.value (.agg (FC 5 (lb V)).toArray)) w := by
  unfold execOp
  simp only [ho, hx, Instr.field, Sem.run_bind, run_underlying USc, Result.andThen_ok]
  unfold Program.fieldsOf
  rw [Try.underlying35]
  simp [asAgg, part_row UN5 sizeN (ext_v V L) (by rw [List.size_toArray, scC_len]; decide)]
theorem UIs : Try.prog.underlying 22 = some (.slice 3) := by kernel_rfl
theorem IInt : (Try.prog.info? 3).map (fun i => (i.zero, i.size, i.bytes)) = some (some (.int .i64 0), 1, 8) := by kernel_rfl
theorem ldI {w : World} {p : Addr} {v : Value} (h : w.cell? p = some v) : (Instr.loadAt 3 (.pointer (some p))).run Try.prog w = .ok v w := by go_simp
theorem mk0 (wx : World) : (Instr.buildSlice 22 0 #[]).run Try.prog wx = .ok (.slice (some ⟨wx.heap.size, 0, none⟩) 0 0) (wx.alloc (.cells #[] 3)) := by kernel_rfl
abbrev ML (w : World) (g : Nat) (level m0 m1 : Int) : List (Nat × Obj) := [(g, oI2 m0 m1), (w.heap.size, oI3 m0 m1 level)]
theorem ZS_two {w : World} {B : Nat} {v : Value} {zs ys : List Int} {n : Nat} (hb : zs.length + ys.length ≤ 140737488355328) (h : w.ownsRow B 3 1 v n ([] ++ zs.map zI ++ ys.map zI)) : ZS w v (zs ++ ys) := by
  have e : [] ++ zs.map zI ++ ys.map zI = (zs ++ ys).map zI := by simp
  rw [e] at h
  have hn : n = (zs ++ ys).length := by have := h.1; simpa using this.symm
  subst hn
  exact SL.of_owns1 h (by rw [List.length_append]; exact hb)
theorem bs0 {o : Oper} {a : Act} {w : World} (ho : o.op = .buildSlice 22 0 #[]) : (execOp a.eval o).run Try.prog w = .ok (.value (.slice (some ⟨w.heap.size, 0, none⟩) 0 0)) (w.alloc (.cells #[] 3)) := by
  unfold execOp
  simp only [ho]
  kernel_rfl
theorem own0 {w : World} {B : Nat} {e : TypeId} (hB : B ≤ w.heap.size) : (w.alloc (.cells #[] e)).ownsRow B e 1 (.slice (some ⟨w.heap.size, 0, none⟩) 0 0) 0 [] :=
  ⟨rfl, .inr ⟨w.heap.size, 0, #[], rfl, hB, heap_new _ _, Nat.le_refl _, by simp [maxLen], rfl, rfl⟩⟩
set_option maxHeartbeats 20000000 in
set_option maxRecDepth 100000 in
theorem scoreMore_calls (v vm : Value) (zs ys : List Int) (m0 m1 level : Int) (w : World) (hz : ZS w v zs) (hy : ZS w vm ys) :
    Calls Try.prog 5 #[v, vm, .agg #[.int .i64 m0, .int .i64 m1, .int .i64 level]] w fun e w' => e = .returned (.bool true) ∧ Below w.heap.size w w' := by
  have hbd := hz.len1
  have hbd2 := hy.len1
  have A0 := Lib.hid (fun w => awake41_calls w)
  have S0 := Lib.hid (SQ.new w (oI3 m0 m1 level))
  have HZ := Lib.hid (fun wx (hx : Below w.heap.size w wx) => hz.below hx)
  have HY := Lib.hid (fun wx (hx : Below w.heap.size w wx) => hy.below hx)
  have hbuild : ∀ wx, (Instr.build 41 #[(0, .int .i64 m0), (1, .int .i64 m1)]).run Try.prog wx = .ok (.agg #[.int .i64 m0, .int .i64 m1]) wx := fun wx => by kernel_rfl
  have HBU := Lib.hid hbuild
  obtain ⟨i0, hi, hz0, hz1, hz2⟩ := info_parts IInt
  have HI := Lib.hid (And.intro hi (And.intro hz0 (And.intro hz1 hz2)))
  obtain ⟨A, cap, rfl, _⟩ := hz.cell1
  obtain ⟨B, cb, rfl, _⟩ := hy.cell1
  clear hz hy hbuild hi hz0 hz1 hz2
  go_enter Try.func5, Try.ntmps5
  go_wp2_with fail
  go_cut [7, 8] (fun s7 s8 wx => ∃ g, s7 = .pointer (some ⟨g, 0, none⟩) ∧ s8 = .int .i64 level ∧ Hid (SQ (ML w g level m0 m1) w wx))
  case first =>
    clear A0 HZ HY HI
    have S_W0 := S0.out.drew
    clear S0
    have hsz : w.heap.size < (w.alloc (oI3 m0 m1 level)).drew.heap.size := by
      show _ < (World.alloc _ _).heap.size
      simp
    obtain ⟨L, hL⟩ : ∃ L, L = [(w.heap.size, oI3 m0 m1 level)] := ⟨_, rfl⟩
    rw [← hL] at S_W0
    unfold oI3 at S_W0 hsz
    have HL := Lib.hid hL
    have Q0 := Lib.hid (show ∀ wx, SQ L w wx → wx.cell? ⟨w.heap.size, 0, none⟩ = some (.int .i64 m0) from fun wx hx => by rw [hL] at hx; exact cell_of_row wx _ 0 _ _ _ hx.a0)
    have Q1 := Lib.hid (show ∀ wx, SQ L w wx → wx.cell? ⟨w.heap.size, 1, none⟩ = some (.int .i64 m1) from fun wx hx => by rw [hL] at hx; exact cell_of_row wx _ 1 _ _ _ hx.a0)
    have Q2 := Lib.hid (show ∀ wx, SQ L w wx → wx.cell? ⟨w.heap.size, 2, none⟩ = some (.int .i64 level) from fun wx hx => by rw [hL] at hx; exact cell_of_row wx _ 2 _ _ _ hx.a0)
    have HNE : Hid (∀ g, w.heap.size < g → ∀ p ∈ L, p.1 ≠ g) := Lib.hid (fun g hg p hp => by rw [hL] at hp; simp at hp; rw [hp]; simp; omega)
    clear hL
    refine wp_region_held_drew (S := SQ L w) (by kernel_rfl) S_W0 (fun hHeld => ?_)
    generalize World.drew _ = W0 at *
    clear hHeld
    refine wpAnyH_take (i := 0) (oi := ⟨some 12, _, _, _, _, _⟩) (v := .pointer (some ⟨w.heap.size, 0, none⟩)) rfl (by kernel_rfl) (by kernel_rfl) (by kernel_rfl) (fun _ _ _ h => h) (Or.inl ⟨by rfl, by intro wx _; go_simp⟩) (by assumption) ?_
    try simp only [Act.put, List.setIfInBounds_toArray, List.set_cons_zero, List.set_cons_succ]
    refine wpAnyH_take (i := 1) (oi := ⟨some 13, _, _, _, _, _⟩) (v := .int .i64 m0) rfl (by kernel_rfl) (by kernel_rfl) (by kernel_rfl) (fun _ _ _ h => h) (Or.inl ⟨by rfl, by intro wx hx; have c := Q0.out wx hx; go_simp⟩) (by assumption) ?_
    try simp only [Act.put, List.setIfInBounds_toArray, List.set_cons_zero, List.set_cons_succ]
    refine wpAnyH_take (i := 2) (oi := ⟨some 14, _, _, _, _, _⟩) (v := .pointer (some ⟨w.heap.size, 1, none⟩)) rfl (by kernel_rfl) (by kernel_rfl) (by kernel_rfl) (fun _ _ _ h => h) (Or.inl ⟨by rfl, by intro wx _; go_simp⟩) (by assumption) ?_
    try simp only [Act.put, List.setIfInBounds_toArray, List.set_cons_zero, List.set_cons_succ]
    refine wpAnyH_take (i := 3) (oi := ⟨some 15, _, _, _, _, _⟩) (v := .int .i64 m1) rfl (by kernel_rfl) (by kernel_rfl) (by kernel_rfl) (fun _ _ _ h => h) (Or.inl ⟨by rfl, by intro wx hx; have c := Q1.out wx hx; go_simp⟩) (by assumption) ?_
    try simp only [Act.put, List.setIfInBounds_toArray, List.set_cons_zero, List.set_cons_succ]
    refine wpAnyH_take (i := 4) (oi := ⟨some 16, _, _, _, _, _⟩) (v := .agg #[.int .i64 m0, .int .i64 m1]) rfl (by kernel_rfl) (by kernel_rfl) (by kernel_rfl) (fun _ _ _ h => h) (Or.inl ⟨by rfl, by intro wx hx; have c := HBU.out wx; go_simp⟩) (by assumption) ?_
    try simp only [Act.put, List.setIfInBounds_toArray, List.set_cons_zero, List.set_cons_succ]
    refine wpAnyH_take (i := 5) (oi := ⟨some 17, _, _, _, _, _⟩) (v := .pointer (some ⟨w.heap.size, 2, none⟩)) rfl (by kernel_rfl) (by kernel_rfl) (by kernel_rfl) (fun _ _ _ h => h) (Or.inl ⟨by rfl, by intro wx _; go_simp⟩) (by assumption) ?_
    try simp only [Act.put, List.setIfInBounds_toArray, List.set_cons_zero, List.set_cons_succ]
    refine wpAnyH_take (i := 6) (oi := ⟨some 18, _, _, _, _, _⟩) (v := .int .i64 level) rfl (by kernel_rfl) (by kernel_rfl) (by kernel_rfl) (fun _ _ _ h => h) (Or.inl ⟨by rfl, by intro wx hx; have c := Q2.out wx hx; go_simp⟩) (by assumption) ?_
    try simp only [Act.put, List.setIfInBounds_toArray, List.set_cons_zero, List.set_cons_succ]
    refine wpAnyH_ready (rs := [7]) (by kernel_rfl) (by simp) ?_
    refine AllReadyH.cons rfl (fun K hK => ?_) AllReadyH.nil
    · go_simp
      generalize hW1 : World.alloc W0 _ = V1
      have hb1 : Below W0.heap.size W0 V1 := by rw [← hW1]; exact bl1 _ _
      have G_V1 : V1.heap[W0.heap.size]? = some (oI2 0 0) := by rw [← hW1]; exact nw1 _ _
      have hz1 : W0.heap.size < V1.heap.size := (Array.getElem?_eq_some_iff.1 G_V1).1
      have hg0 : w.heap.size < W0.heap.size := by omega
      clear hW1
      have S_V1 := S_W0.keep hb1
      try dsimp only
      refine hK.out _ _ S_V1 (fun _ => ?_)
      clear hK K
      refine wpAnyH_ready (rs := [8]) (by kernel_rfl) (by simp) ?_
      refine AllReadyH.cons rfl (fun K hK => ?_) AllReadyH.nil
      · refine step_store rfl 41 _ _ rfl _ rfl (.agg #[.int .i64 m0, .int .i64 m1]) rfl _ (run_storeAt_row (cells := #[.int .i64 m0, .int .i64 m1]) G_V1 (by kernel_rfl) rfl (by simp [Value.oneCell'])) ?_
        generalize hW2 : World.setRow V1 _ _ = V2
        have S_V2 := hW2 ▸ S_V1.row (by omega) (HNE.out _ hg0)
        have G_V2 := hW2 ▸ setRow_heap _ _ _ _ _ _ G_V1
        try dsimp only
        refine hK.out _ _ S_V2 (fun _ => ?_)
        clear hK K
        refine wpAnyH_take (i := 9) (oi := ⟨some 8, _, _, _, _, _⟩) (v := .int .i64 level) rfl (by kernel_rfl) (by kernel_rfl) (by kernel_rfl) (fun _ _ _ h => h) (Or.inl ⟨by rfl, by intro wx _; go_simp⟩) (by assumption) ?_
        try simp only [Act.put, List.setIfInBounds_toArray, List.set_cons_zero, List.set_cons_succ]
        refine wpAnyH_done (by kernel_rfl) ?_ _
        go_wp2_with fail
        go_meet
        exact ⟨_, rfl, rfl, Lib.hid (by have s := S_V2; rw [HL.out] at s; exact s.add G_V2)⟩
  case rest =>
    obtain ⟨g1, rfl, rfl, S⟩ := hcut
    have X0 := Lib.hid (fun wx (L : SQ (ML w g1 level m0 m1) w wx) => cell_of_row wx g1 0 _ _ _ L.a0)
    have X1 := Lib.hid (fun wx (L : SQ (ML w g1 level m0 m1) w wx) => cell_of_row wx g1 1 _ _ _ L.a0)
    clear S0 HBU
    have hcase : (decide ((60 : Int) < (zs.length : Int)) = true) ∨ (decide ((60 : Int) < (zs.length : Int)) = false ∧ decide ((20 : Int) < (ys.length : Int)) = true) ∨ (decide ((60 : Int) < (zs.length : Int)) = false ∧ decide ((20 : Int) < (ys.length : Int)) = false ∧ decide (m1 < m0) = true) ∨
        (decide ((60 : Int) < (zs.length : Int)) = false ∧ decide ((20 : Int) < (ys.length : Int)) = false ∧ decide (m1 < m0) = false) := by
      simp only [decide_eq_true_eq, decide_eq_false_iff_not]
      omega
    have y0 := X0.out _ S.out
    have y1 := X1.out _ S.out
    simp only [List.getElem?_toArray, List.getElem?_cons_zero, List.getElem?_cons_succ] at y0 y1
    rcases hcase with t1 | ⟨t1, t2⟩ | ⟨t1, t2, t3⟩ | ⟨t1, t2, t3⟩
    case' inr.inr.inr =>
      have hl : zs.length ≤ 60 := by have := of_decide_eq_false t1; omega
      have hl2 : ys.length ≤ 20 := by have := of_decide_eq_false t2; omega
      have hmm : m0 ≤ m1 := by have := of_decide_eq_false t3; omega
    any_goals
      (go_wp2_with fail
       refine (A0.out _).mono ?_
       rintro e w9 ⟨rfl, b9⟩
       have S := Lib.hid (S.out.keep b9)
       clear b9 y0 y1
       go_wp2_with fail
       go_ret
       exact ⟨rfl, S.out.2⟩)
    have D0 := Lib.hid (fun wx (hx : SQ (ML w g1 level m0 m1) w wx) => best_calls _ zs m0 wx (HZ.out wx hx.2))
    have hx0 := bst_lt m0 hbd 256
    have hx1 := bst_lt m1 hbd 256
    have hbd3 : (zs ++ ys).length ≤ 140737488355328 := by rw [List.length_append]; omega
    have hx2 := bst_lt m0 hbd3 256
    have hle1 := best_append zs ys m0 256
    have hle2 := best_anti (xs := zs) hmm 256
    have hle3 := @best_may zs level m0
    have hval := valS_lt level hbd
    go_wp2_with fail
    refine (D0.out _ S.out).mono ?_
    rintro e w2 ⟨rfl, hb2⟩
    have S2 := Lib.hid (S.out.keep hb2)
    clear hb2
    have S3 := Lib.hid (S2.out.alloc (oN5 (bst zs m0 256).1))
    clear S2
    go_wp2_with (first | (refine wpList_value (by rfl) _ (field_v (by rfl) (by rfl)) ?_) | (refine wpList_store_last rfl 26 _ _ rfl _ (FC 5 (lb (bst zs m0 256).1)).toArray rfl rfl (IN5 _) (by rw [FC_size]; rfl) (FC_one _ _) ?_))
    simp only [Act.put, List.setIfInBounds_toArray, List.set_cons_zero, List.set_cons_succ]
    go_cut [10] (fun s10 wx => ∃ g, s10 = .pointer (some ⟨g, 0, none⟩) ∧ Hid (SQ ((g, oN5 (bst (zs ++ ys) m0 256).1) :: (w2.heap.size, oN5 (bst zs m0 256).1) :: ML w g1 level m0 m1) w wx))
    case first =>
      have HD := Lib.hid (fun v wx (hv : ZS wx v (zs ++ ys)) => best_calls v (zs ++ ys) m0 wx hv)
      have S_00 := S3.out
      clear S3 S A0 D0 X1 hx0 hx1 hx2 hle1 hle2 hle3 hval y0 y1
      generalize bst (zs ++ ys) m0 256 = bb at *
      obtain ⟨XV, XL⟩ := bb
      simp only at HD
      have HX := Lib.hid (fun wx (hx : SQ ((w2.heap.size, oN5 (bst zs m0 256).1) :: ML w g1 level m0 m1) w wx) => cell_of_row wx g1 0 _ _ _ hx.a1)
      change Code.wp _ _ _ _ (w2.alloc (oN5 (bst zs m0 256).1))
      generalize World.alloc w2 _ = X at *
      obtain ⟨L, hLL⟩ : ∃ L, L = (w2.heap.size, oN5 (bst zs m0 256).1) :: ML w g1 level m0 m1 := ⟨_, rfl⟩
      rw [← hLL] at S_00
      have HLL := Lib.hid hLL
      have HXX := Lib.hid (show ∀ wx, SQ L w wx → wx.cell? ⟨g1, 0, none⟩ = some (.int .i64 m0) from fun wx hx => HX.out wx (by rw [← hLL]; exact hx))
      clear hLL X0 HX
      have S_W0 : SQ L X.drew X.drew := ⟨S_00.drew.1, Below.refl _ _⟩
      have S_00 := S_00.drew
      have H00 := Lib.hid S_00
      have hlt := Lib.hid (fun p (hp : p ∈ L) => S_00.1.lt hp)
      have HNE : Hid (∀ g, X.drew.heap.size ≤ g → ∀ p ∈ L, p.1 ≠ g) := Lib.hid (fun g hg p hp e => by have := hlt.out p hp; omega)
      have HC := Lib.hid (show ∀ wx, SQ L X.drew wx → wx.cell? ⟨g1, 0, none⟩ = some (.int .i64 m0) from fun wx hx => HXX.out wx ⟨hx.1, below_up S_00.2 hx.2⟩)
      have HZ0 := Lib.hid (fun wx (hx : SQ L X.drew wx) => HZ.out wx (below_up S_00.2 hx.2))
      have HY0 := Lib.hid (fun wx (hx : SQ L X.drew wx) => HY.out wx (below_up S_00.2 hx.2))
      clear S_00 HXX HZ HY
      refine wp_region_held_drew (S := SQ L X.drew) (by kernel_rfl) S_W0 (fun hHeld => ?_)
      generalize World.drew X = W0 at *
      clear hHeld
      refine wpAnyH_take (i := 1) (oi := ⟨some 41, _, _, _, _, _⟩) (v := .slice A zs.length cap) rfl (by kernel_rfl) (by kernel_rfl) (by kernel_rfl) (fun _ _ _ h => h) (Or.inl ⟨by kernel_rfl, by intro wx _; go_simp⟩) (by assumption) ?_
      try simp only [Act.put, List.setIfInBounds_toArray, List.set_cons_zero, List.set_cons_succ]
      refine wpAnyH_take (i := 3) (oi := ⟨some 43, _, _, _, _, _⟩) (v := .slice B ys.length cb) rfl (by kernel_rfl) (by kernel_rfl) (by kernel_rfl) (fun _ _ _ h => h) (Or.inl ⟨by kernel_rfl, by intro wx _; go_simp⟩) (by assumption) ?_
      try simp only [Act.put, List.setIfInBounds_toArray, List.set_cons_zero, List.set_cons_succ]
      refine wpAnyH_take (i := 5) (oi := ⟨some 45, _, _, _, _, _⟩) (v := .pointer (some ⟨g1, 0, none⟩)) rfl (by kernel_rfl) (by kernel_rfl) (by kernel_rfl) (fun _ _ _ h => h) (Or.inl ⟨by kernel_rfl, by intro wx _; go_simp⟩) (by assumption) ?_
      try simp only [Act.put, List.setIfInBounds_toArray, List.set_cons_zero, List.set_cons_succ]
      refine wpAnyH_take (i := 6) (oi := ⟨some 46, _, _, _, _, _⟩) (v := .int .i64 m0) rfl (by kernel_rfl) (by kernel_rfl) (by kernel_rfl) (fun _ _ _ h => h) (Or.inl ⟨by kernel_rfl, by intro wx hx; have c := HC.out wx hx; go_simp⟩) (by assumption) ?_
      try simp only [Act.put, List.setIfInBounds_toArray, List.set_cons_zero, List.set_cons_succ]
      refine wpAnyH_ready (rs := [0, 9]) (by kernel_rfl) (by simp) ?_
      refine AllReadyH.cons rfl (fun K hK => ?_) (AllReadyH.cons rfl (fun K hK => ?_) AllReadyH.nil)
      · refine step_val rfl _ _ (bs0 (by rfl)) ?_
        have R_V1' := own0 (e := 3) S_W0.2.size
        generalize hW1 : World.alloc W0 _ = V1 at *
        have hb1 : Below W0.heap.size W0 V1 := by rw [← hW1]; exact bl1 _ _
        have R_V1 := R_V1'
        clear hW1 R_V1'
        have S_V1 := S_W0.keep hb1
        try dsimp only
        refine hK.out (Act.put _ (some 40) _) _ S_V1 (fun _ => ?_)
        try simp only [Act.put, List.setIfInBounds_toArray, List.set_cons_zero, List.set_cons_succ]
        clear hK K
        refine wpAnyH_ready (rs := [2, 9]) (by kernel_rfl) (by simp) ?_
        refine AllReadyH.cons rfl (fun K hK => ?_) (AllReadyH.cons rfl (fun K hK => ?_) AllReadyH.nil)
        · obtain ⟨v2, V2, hr2, own2, gro2⟩ := append_run (f := zI) (fun _ => rfl) W0.heap.size 22 22 3 i0 (.int .i64 0) 8 UIs HI.out.1 HI.out.2.1 HI.out.2.2.1 HI.out.2.2.2 rfl _ _ _ R_V1 _ zs (HZ0.out _ S_V1) (by simp only [maxLen]; omega) (by omega) S_V1.2.size
          refine step_append_run rfl (.tmp 40) (.tmp 41) _ _ rfl _ _ v2 V2 rfl rfl hr2 ?_
          have N_V2 := own2
          clear hr2
          have S_V2 := SQ.grown S_V1 R_V1 gro2 (Nat.le_refl _) hlt.out
          have R_V2 := World.ownsRow_nil V2 W0.heap.size 3 1
          try dsimp only
          refine hK.out (Act.put _ (some 42) _) _ S_V2 (fun _ => ?_)
          try simp only [Act.put, List.setIfInBounds_toArray, List.set_cons_zero, List.set_cons_succ]
          clear hK K
          refine wpAnyH_ready (rs := [4, 9]) (by kernel_rfl) (by simp) ?_
          refine AllReadyH.cons rfl (fun K hK => ?_) (AllReadyH.cons rfl (fun K hK => ?_) AllReadyH.nil)
          · obtain ⟨v3, V3, hr3, own3, gro3⟩ := append_run (f := zI) (fun _ => rfl) W0.heap.size 22 22 3 i0 (.int .i64 0) 8 UIs HI.out.1 HI.out.2.1 HI.out.2.2.1 HI.out.2.2.2 rfl _ _ _ N_V2 _ ys (HY0.out _ S_V2) (by simp only [maxLen]; omega) (by omega) S_V2.2.size
            refine step_append_run rfl (.tmp 42) (.tmp 43) _ _ rfl _ _ v3 V3 rfl rfl hr3 ?_
            have M_V3 := own3
            clear hr3
            have S_V3 := SQ.grown S_V2 N_V2 gro3 (Nat.le_refl _) hlt.out
            have R_V3 := World.ownsRow_nil V3 W0.heap.size 3 1
            have N_V3 := World.ownsRow_nil V3 W0.heap.size 3 1
            try dsimp only
            refine hK.out (Act.put _ (some 44) _) _ S_V3 (fun _ => ?_)
            try simp only [Act.put, List.setIfInBounds_toArray, List.set_cons_zero, List.set_cons_succ]
            clear hK K
            refine wpAnyH_ready (rs := [7, 9]) (by kernel_rfl) (by simp) ?_
            refine AllReadyH.cons rfl (fun K hK => ?_) (AllReadyH.cons rfl (fun K hK => ?_) AllReadyH.nil)
            · rw [if_pos (by kernel_rfl)]
              refine wp_callQ _ _ (by go_simp) (HD.out _ V3 (ZS_two (by omega) M_V3)) ?_
              rintro e V4 ⟨rfl, hb4⟩
              refine ⟨_, rfl, ?_⟩
              have S_V4 := S_V3.keep hb4
              have R_V4 := ownsRow_below R_V3 hb4
              have N_V4 := ownsRow_below N_V3 hb4
              have M_V4 := ownsRow_below M_V3 hb4
              try dsimp only
              refine hK.out (Act.put _ (some 47) _) _ S_V4 (fun _ => ?_)
              try simp only [Act.put, List.setIfInBounds_toArray, List.set_cons_zero, List.set_cons_succ]
              clear hK K
              refine wpAnyH_take (i := 8) (oi := ⟨some 48, _, _, _, _, _⟩) (v := .agg (FC 5 (lb XV)).toArray) rfl (by kernel_rfl) (by kernel_rfl) (by kernel_rfl) (fun _ _ _ h => h) (Or.inl ⟨by kernel_rfl, by intro wx _; exact field_v (by rfl) (by rfl)⟩) (by assumption) ?_
              try simp only [Act.put, List.setIfInBounds_toArray, List.set_cons_zero, List.set_cons_succ]
              refine wpAnyH_ready (rs := [9]) (by kernel_rfl) (by simp) ?_
              refine AllReadyH.cons rfl (fun K hK => ?_) AllReadyH.nil
              · go_simp
                generalize hW5 : World.alloc V4 _ = V5
                have hb5 : Below V4.heap.size V4 V5 := by rw [← hW5]; exact bl1 _ _
                have G_V5 : V5.heap[V4.heap.size]? = some (oN5 0) := by rw [← hW5, ← oN5_zero]; exact nw1 _ _
                have hg0 : W0.heap.size ≤ V4.heap.size := S_V4.2.size
                clear hW5
                have S_V5 := S_V4.keep hb5
                have R_V5 := ownsRow_below R_V4 hb5
                have N_V5 := ownsRow_below N_V4 hb5
                have M_V5 := ownsRow_below M_V4 hb5
                try dsimp only
                refine hK.out _ _ S_V5 (fun _ => ?_)
                clear hK K
                refine wpAnyH_ready (rs := [10]) (by kernel_rfl) (by simp) ?_
                refine AllReadyH.cons rfl (fun K hK => ?_) AllReadyH.nil
                · refine step_store rfl 26 _ _ rfl _ rfl (.agg (FC 5 (lb XV)).toArray) rfl _ (run_storeAt_row (cells := (FC 5 (lb XV)).toArray) G_V5 (IN5 _) (SZ5 _ _) (FC_one 5 _)) ?_
                  generalize hW6 : World.setRow V5 _ _ = V6
                  have S_V6 := hW6 ▸ S_V5.row hg0 (HNE.out _ hg0)
                  have R_V6 := World.ownsRow_nil V6 W0.heap.size 3 1
                  have N_V6 := World.ownsRow_nil V6 W0.heap.size 3 1
                  have M_V6 := World.ownsRow_nil V6 W0.heap.size 3 1
                  have G_V6 := hW6 ▸ setRow_heap _ _ _ _ _ _ G_V5
                  try dsimp only
                  refine hK.out (Act.put _ none _) _ S_V6 (fun _ => ?_)
                  try simp only [Act.put, List.setIfInBounds_toArray, List.set_cons_zero, List.set_cons_succ]
                  clear hK K
                  refine wpAnyH_done (by kernel_rfl) ?_ _
                  go_wp2_with fail
                  go_meet
                  exact ⟨_, rfl, Lib.hid (by have s : SQ L w _ := ⟨S_V6.1, below_up H00.out.2 S_V6.2⟩; rw [HLL.out] at s; exact s.add G_V6)⟩
            · go_simp
              generalize hW7 : World.alloc V3 _ = V7
              have hb7 : Below V3.heap.size V3 V7 := by rw [← hW7]; exact bl1 _ _
              have G_V7 : V7.heap[V3.heap.size]? = some (oN5 0) := by rw [← hW7, ← oN5_zero]; exact nw1 _ _
              have hg0 : W0.heap.size ≤ V3.heap.size := S_V3.2.size
              clear hW7
              have S_V7 := S_V3.keep hb7
              have R_V7 := ownsRow_below R_V3 hb7
              have N_V7 := ownsRow_below N_V3 hb7
              have M_V7 := ownsRow_below M_V3 hb7
              try dsimp only
              refine hK.out _ _ S_V7 (fun _ => ?_)
              clear hK K
              refine wpAnyH_ready (rs := [7]) (by kernel_rfl) (by simp) ?_
              refine AllReadyH.cons rfl (fun K hK => ?_) AllReadyH.nil
              · rw [if_pos (by kernel_rfl)]
                refine wp_callQ _ _ (by go_simp) (HD.out _ V7 (ZS_two (by omega) M_V7)) ?_
                rintro e V8 ⟨rfl, hb8⟩
                refine ⟨_, rfl, ?_⟩
                have S_V8 := S_V7.keep hb8
                have R_V8 := ownsRow_below R_V7 hb8
                have N_V8 := ownsRow_below N_V7 hb8
                have M_V8 := ownsRow_below M_V7 hb8
                have G_V8 := (hb8.block _ (Array.getElem?_eq_some_iff.1 G_V7).1).trans G_V7
                try dsimp only
                refine hK.out (Act.put _ (some 47) _) _ S_V8 (fun _ => ?_)
                try simp only [Act.put, List.setIfInBounds_toArray, List.set_cons_zero, List.set_cons_succ]
                clear hK K
                refine wpAnyH_take (i := 8) (oi := ⟨some 48, _, _, _, _, _⟩) (v := .agg (FC 5 (lb XV)).toArray) rfl (by kernel_rfl) (by kernel_rfl) (by kernel_rfl) (fun _ _ _ h => h) (Or.inl ⟨by kernel_rfl, by intro wx _; exact field_v (by rfl) (by rfl)⟩) (by assumption) ?_
                try simp only [Act.put, List.setIfInBounds_toArray, List.set_cons_zero, List.set_cons_succ]
                refine wpAnyH_ready (rs := [10]) (by kernel_rfl) (by simp) ?_
                refine AllReadyH.cons rfl (fun K hK => ?_) AllReadyH.nil
                · refine step_store rfl 26 _ _ rfl _ rfl (.agg (FC 5 (lb XV)).toArray) rfl _ (run_storeAt_row (cells := (FC 5 (lb XV)).toArray) G_V8 (IN5 _) (SZ5 _ _) (FC_one 5 _)) ?_
                  generalize hW9 : World.setRow V8 _ _ = V9
                  have S_V9 := hW9 ▸ S_V8.row hg0 (HNE.out _ hg0)
                  have R_V9 := World.ownsRow_nil V9 W0.heap.size 3 1
                  have N_V9 := World.ownsRow_nil V9 W0.heap.size 3 1
                  have M_V9 := World.ownsRow_nil V9 W0.heap.size 3 1
                  have G_V9 := hW9 ▸ setRow_heap _ _ _ _ _ _ G_V8
                  try dsimp only
                  refine hK.out (Act.put _ none _) _ S_V9 (fun _ => ?_)
                  try simp only [Act.put, List.setIfInBounds_toArray, List.set_cons_zero, List.set_cons_succ]
                  clear hK K
                  refine wpAnyH_done (by kernel_rfl) ?_ _
                  go_wp2_with fail
                  go_meet
                  exact ⟨_, rfl, Lib.hid (by have s : SQ L w _ := ⟨S_V9.1, below_up H00.out.2 S_V9.2⟩; rw [HLL.out] at s; exact s.add G_V9)⟩
          · go_simp
            generalize hW10 : World.alloc V2 _ = V10
            have hb10 : Below V2.heap.size V2 V10 := by rw [← hW10]; exact bl1 _ _
            have G_V10 : V10.heap[V2.heap.size]? = some (oN5 0) := by rw [← hW10, ← oN5_zero]; exact nw1 _ _
            have hg0 : W0.heap.size ≤ V2.heap.size := S_V2.2.size
            clear hW10
            have S_V10 := S_V2.keep hb10
            have R_V10 := ownsRow_below R_V2 hb10
            have N_V10 := ownsRow_below N_V2 hb10
            try dsimp only
            refine hK.out _ _ S_V10 (fun _ => ?_)
            clear hK K
            refine wpAnyH_ready (rs := [4]) (by kernel_rfl) (by simp) ?_
            refine AllReadyH.cons rfl (fun K hK => ?_) AllReadyH.nil
            · obtain ⟨v11, V11, hr11, own11, gro11⟩ := append_run (f := zI) (fun _ => rfl) W0.heap.size 22 22 3 i0 (.int .i64 0) 8 UIs HI.out.1 HI.out.2.1 HI.out.2.2.1 HI.out.2.2.2 rfl _ _ _ N_V10 _ ys (HY0.out _ S_V10) (by simp only [maxLen]; omega) (by omega) S_V10.2.size
              refine step_append_run rfl (.tmp 42) (.tmp 43) _ _ rfl _ _ v11 V11 rfl rfl hr11 ?_
              have M_V11 := own11
              clear hr11
              have S_V11 := SQ.grown S_V10 N_V10 gro11 (Nat.le_refl _) hlt.out
              have R_V11 := World.ownsRow_nil V11 W0.heap.size 3 1
              have N_V11 := World.ownsRow_nil V11 W0.heap.size 3 1
              have G_V11 := (gro11.block _ (Array.getElem?_eq_some_iff.1 G_V10).1 (own_ne N_V10 G_V10 (by decide))).trans G_V10
              try dsimp only
              refine hK.out (Act.put _ (some 44) _) _ S_V11 (fun _ => ?_)
              try simp only [Act.put, List.setIfInBounds_toArray, List.set_cons_zero, List.set_cons_succ]
              clear hK K
              refine wpAnyH_ready (rs := [7]) (by kernel_rfl) (by simp) ?_
              refine AllReadyH.cons rfl (fun K hK => ?_) AllReadyH.nil
              · rw [if_pos (by kernel_rfl)]
                refine wp_callQ _ _ (by go_simp) (HD.out _ V11 (ZS_two (by omega) M_V11)) ?_
                rintro e V12 ⟨rfl, hb12⟩
                refine ⟨_, rfl, ?_⟩
                have S_V12 := S_V11.keep hb12
                have R_V12 := ownsRow_below R_V11 hb12
                have N_V12 := ownsRow_below N_V11 hb12
                have G_V12 := (hb12.block _ (Array.getElem?_eq_some_iff.1 G_V11).1).trans G_V11
                have M_V12 := ownsRow_below M_V11 hb12
                try dsimp only
                refine hK.out (Act.put _ (some 47) _) _ S_V12 (fun _ => ?_)
                try simp only [Act.put, List.setIfInBounds_toArray, List.set_cons_zero, List.set_cons_succ]
                clear hK K
                refine wpAnyH_take (i := 8) (oi := ⟨some 48, _, _, _, _, _⟩) (v := .agg (FC 5 (lb XV)).toArray) rfl (by kernel_rfl) (by kernel_rfl) (by kernel_rfl) (fun _ _ _ h => h) (Or.inl ⟨by kernel_rfl, by intro wx _; exact field_v (by rfl) (by rfl)⟩) (by assumption) ?_
                try simp only [Act.put, List.setIfInBounds_toArray, List.set_cons_zero, List.set_cons_succ]
                refine wpAnyH_ready (rs := [10]) (by kernel_rfl) (by simp) ?_
                refine AllReadyH.cons rfl (fun K hK => ?_) AllReadyH.nil
                · refine step_store rfl 26 _ _ rfl _ rfl (.agg (FC 5 (lb XV)).toArray) rfl _ (run_storeAt_row (cells := (FC 5 (lb XV)).toArray) G_V12 (IN5 _) (SZ5 _ _) (FC_one 5 _)) ?_
                  generalize hW13 : World.setRow V12 _ _ = V13
                  have S_V13 := hW13 ▸ S_V12.row hg0 (HNE.out _ hg0)
                  have R_V13 := World.ownsRow_nil V13 W0.heap.size 3 1
                  have N_V13 := World.ownsRow_nil V13 W0.heap.size 3 1
                  have G_V13 := hW13 ▸ setRow_heap _ _ _ _ _ _ G_V12
                  have M_V13 := World.ownsRow_nil V13 W0.heap.size 3 1
                  try dsimp only
                  refine hK.out (Act.put _ none _) _ S_V13 (fun _ => ?_)
                  try simp only [Act.put, List.setIfInBounds_toArray, List.set_cons_zero, List.set_cons_succ]
                  clear hK K
                  refine wpAnyH_done (by kernel_rfl) ?_ _
                  go_wp2_with fail
                  go_meet
                  exact ⟨_, rfl, Lib.hid (by have s : SQ L w _ := ⟨S_V13.1, below_up H00.out.2 S_V13.2⟩; rw [HLL.out] at s; exact s.add G_V13)⟩
        · go_simp
          generalize hW14 : World.alloc V1 _ = V14
          have hb14 : Below V1.heap.size V1 V14 := by rw [← hW14]; exact bl1 _ _
          have G_V14 : V14.heap[V1.heap.size]? = some (oN5 0) := by rw [← hW14, ← oN5_zero]; exact nw1 _ _
          have hg0 : W0.heap.size ≤ V1.heap.size := S_V1.2.size
          clear hW14
          have S_V14 := S_V1.keep hb14
          have R_V14 := ownsRow_below R_V1 hb14
          try dsimp only
          refine hK.out _ _ S_V14 (fun _ => ?_)
          clear hK K
          refine wpAnyH_ready (rs := [2]) (by kernel_rfl) (by simp) ?_
          refine AllReadyH.cons rfl (fun K hK => ?_) AllReadyH.nil
          · obtain ⟨v15, V15, hr15, own15, gro15⟩ := append_run (f := zI) (fun _ => rfl) W0.heap.size 22 22 3 i0 (.int .i64 0) 8 UIs HI.out.1 HI.out.2.1 HI.out.2.2.1 HI.out.2.2.2 rfl _ _ _ R_V14 _ zs (HZ0.out _ S_V14) (by simp only [maxLen]; omega) (by omega) S_V14.2.size
            refine step_append_run rfl (.tmp 40) (.tmp 41) _ _ rfl _ _ v15 V15 rfl rfl hr15 ?_
            have N_V15 := own15
            clear hr15
            have S_V15 := SQ.grown S_V14 R_V14 gro15 (Nat.le_refl _) hlt.out
            have R_V15 := World.ownsRow_nil V15 W0.heap.size 3 1
            have G_V15 := (gro15.block _ (Array.getElem?_eq_some_iff.1 G_V14).1 (own_ne R_V14 G_V14 (by decide))).trans G_V14
            try dsimp only
            refine hK.out (Act.put _ (some 42) _) _ S_V15 (fun _ => ?_)
            try simp only [Act.put, List.setIfInBounds_toArray, List.set_cons_zero, List.set_cons_succ]
            clear hK K
            refine wpAnyH_ready (rs := [4]) (by kernel_rfl) (by simp) ?_
            refine AllReadyH.cons rfl (fun K hK => ?_) AllReadyH.nil
            · obtain ⟨v16, V16, hr16, own16, gro16⟩ := append_run (f := zI) (fun _ => rfl) W0.heap.size 22 22 3 i0 (.int .i64 0) 8 UIs HI.out.1 HI.out.2.1 HI.out.2.2.1 HI.out.2.2.2 rfl _ _ _ N_V15 _ ys (HY0.out _ S_V15) (by simp only [maxLen]; omega) (by omega) S_V15.2.size
              refine step_append_run rfl (.tmp 42) (.tmp 43) _ _ rfl _ _ v16 V16 rfl rfl hr16 ?_
              have M_V16 := own16
              clear hr16
              have S_V16 := SQ.grown S_V15 N_V15 gro16 (Nat.le_refl _) hlt.out
              have R_V16 := World.ownsRow_nil V16 W0.heap.size 3 1
              have G_V16 := (gro16.block _ (Array.getElem?_eq_some_iff.1 G_V15).1 (own_ne N_V15 G_V15 (by decide))).trans G_V15
              have N_V16 := World.ownsRow_nil V16 W0.heap.size 3 1
              try dsimp only
              refine hK.out (Act.put _ (some 44) _) _ S_V16 (fun _ => ?_)
              try simp only [Act.put, List.setIfInBounds_toArray, List.set_cons_zero, List.set_cons_succ]
              clear hK K
              refine wpAnyH_ready (rs := [7]) (by kernel_rfl) (by simp) ?_
              refine AllReadyH.cons rfl (fun K hK => ?_) AllReadyH.nil
              · rw [if_pos (by kernel_rfl)]
                refine wp_callQ _ _ (by go_simp) (HD.out _ V16 (ZS_two (by omega) M_V16)) ?_
                rintro e V17 ⟨rfl, hb17⟩
                refine ⟨_, rfl, ?_⟩
                have S_V17 := S_V16.keep hb17
                have R_V17 := ownsRow_below R_V16 hb17
                have G_V17 := (hb17.block _ (Array.getElem?_eq_some_iff.1 G_V16).1).trans G_V16
                have N_V17 := ownsRow_below N_V16 hb17
                have M_V17 := ownsRow_below M_V16 hb17
                try dsimp only
                refine hK.out (Act.put _ (some 47) _) _ S_V17 (fun _ => ?_)
                try simp only [Act.put, List.setIfInBounds_toArray, List.set_cons_zero, List.set_cons_succ]
                clear hK K
                refine wpAnyH_take (i := 8) (oi := ⟨some 48, _, _, _, _, _⟩) (v := .agg (FC 5 (lb XV)).toArray) rfl (by kernel_rfl) (by kernel_rfl) (by kernel_rfl) (fun _ _ _ h => h) (Or.inl ⟨by kernel_rfl, by intro wx _; exact field_v (by rfl) (by rfl)⟩) (by assumption) ?_
                try simp only [Act.put, List.setIfInBounds_toArray, List.set_cons_zero, List.set_cons_succ]
                refine wpAnyH_ready (rs := [10]) (by kernel_rfl) (by simp) ?_
                refine AllReadyH.cons rfl (fun K hK => ?_) AllReadyH.nil
                · refine step_store rfl 26 _ _ rfl _ rfl (.agg (FC 5 (lb XV)).toArray) rfl _ (run_storeAt_row (cells := (FC 5 (lb XV)).toArray) G_V17 (IN5 _) (SZ5 _ _) (FC_one 5 _)) ?_
                  generalize hW18 : World.setRow V17 _ _ = V18
                  have S_V18 := hW18 ▸ S_V17.row hg0 (HNE.out _ hg0)
                  have R_V18 := World.ownsRow_nil V18 W0.heap.size 3 1
                  have G_V18 := hW18 ▸ setRow_heap _ _ _ _ _ _ G_V17
                  have N_V18 := World.ownsRow_nil V18 W0.heap.size 3 1
                  have M_V18 := World.ownsRow_nil V18 W0.heap.size 3 1
                  try dsimp only
                  refine hK.out (Act.put _ none _) _ S_V18 (fun _ => ?_)
                  try simp only [Act.put, List.setIfInBounds_toArray, List.set_cons_zero, List.set_cons_succ]
                  clear hK K
                  refine wpAnyH_done (by kernel_rfl) ?_ _
                  go_wp2_with fail
                  go_meet
                  exact ⟨_, rfl, Lib.hid (by have s : SQ L w _ := ⟨S_V18.1, below_up H00.out.2 S_V18.2⟩; rw [HLL.out] at s; exact s.add G_V18)⟩
      · go_simp
        generalize hW19 : World.alloc W0 _ = V19
        have hb19 : Below W0.heap.size W0 V19 := by rw [← hW19]; exact bl1 _ _
        have G_V19 : V19.heap[W0.heap.size]? = some (oN5 0) := by rw [← hW19, ← oN5_zero]; exact nw1 _ _
        have hg0 : W0.heap.size ≤ W0.heap.size := S_W0.2.size
        clear hW19
        have S_V19 := S_W0.keep hb19
        try dsimp only
        refine hK.out _ _ S_V19 (fun _ => ?_)
        clear hK K
        refine wpAnyH_ready (rs := [0]) (by kernel_rfl) (by simp) ?_
        refine AllReadyH.cons rfl (fun K hK => ?_) AllReadyH.nil
        · refine step_val rfl _ _ (bs0 (by rfl)) ?_
          have R_V20' := own0 (e := 3) S_V19.2.size
          generalize hW20 : World.alloc V19 _ = V20 at *
          have hb20 : Below V19.heap.size V19 V20 := by rw [← hW20]; exact bl1 _ _
          have R_V20 := R_V20'
          clear hW20 R_V20'
          have S_V20 := S_V19.keep hb20
          have G_V20 := (hb20.block _ (Array.getElem?_eq_some_iff.1 G_V19).1).trans G_V19
          try dsimp only
          refine hK.out (Act.put _ (some 40) _) _ S_V20 (fun _ => ?_)
          try simp only [Act.put, List.setIfInBounds_toArray, List.set_cons_zero, List.set_cons_succ]
          clear hK K
          refine wpAnyH_ready (rs := [2]) (by kernel_rfl) (by simp) ?_
          refine AllReadyH.cons rfl (fun K hK => ?_) AllReadyH.nil
          · obtain ⟨v21, V21, hr21, own21, gro21⟩ := append_run (f := zI) (fun _ => rfl) W0.heap.size 22 22 3 i0 (.int .i64 0) 8 UIs HI.out.1 HI.out.2.1 HI.out.2.2.1 HI.out.2.2.2 rfl _ _ _ R_V20 _ zs (HZ0.out _ S_V20) (by simp only [maxLen]; omega) (by omega) S_V20.2.size
            refine step_append_run rfl (.tmp 40) (.tmp 41) _ _ rfl _ _ v21 V21 rfl rfl hr21 ?_
            have N_V21 := own21
            clear hr21
            have S_V21 := SQ.grown S_V20 R_V20 gro21 (Nat.le_refl _) hlt.out
            have G_V21 := (gro21.block _ (Array.getElem?_eq_some_iff.1 G_V20).1 (own_ne R_V20 G_V20 (by decide))).trans G_V20
            have R_V21 := World.ownsRow_nil V21 W0.heap.size 3 1
            try dsimp only
            refine hK.out (Act.put _ (some 42) _) _ S_V21 (fun _ => ?_)
            try simp only [Act.put, List.setIfInBounds_toArray, List.set_cons_zero, List.set_cons_succ]
            clear hK K
            refine wpAnyH_ready (rs := [4]) (by kernel_rfl) (by simp) ?_
            refine AllReadyH.cons rfl (fun K hK => ?_) AllReadyH.nil
            · obtain ⟨v22, V22, hr22, own22, gro22⟩ := append_run (f := zI) (fun _ => rfl) W0.heap.size 22 22 3 i0 (.int .i64 0) 8 UIs HI.out.1 HI.out.2.1 HI.out.2.2.1 HI.out.2.2.2 rfl _ _ _ N_V21 _ ys (HY0.out _ S_V21) (by simp only [maxLen]; omega) (by omega) S_V21.2.size
              refine step_append_run rfl (.tmp 42) (.tmp 43) _ _ rfl _ _ v22 V22 rfl rfl hr22 ?_
              have M_V22 := own22
              clear hr22
              have S_V22 := SQ.grown S_V21 N_V21 gro22 (Nat.le_refl _) hlt.out
              have G_V22 := (gro22.block _ (Array.getElem?_eq_some_iff.1 G_V21).1 (own_ne N_V21 G_V21 (by decide))).trans G_V21
              have R_V22 := World.ownsRow_nil V22 W0.heap.size 3 1
              have N_V22 := World.ownsRow_nil V22 W0.heap.size 3 1
              try dsimp only
              refine hK.out (Act.put _ (some 44) _) _ S_V22 (fun _ => ?_)
              try simp only [Act.put, List.setIfInBounds_toArray, List.set_cons_zero, List.set_cons_succ]
              clear hK K
              refine wpAnyH_ready (rs := [7]) (by kernel_rfl) (by simp) ?_
              refine AllReadyH.cons rfl (fun K hK => ?_) AllReadyH.nil
              · rw [if_pos (by kernel_rfl)]
                refine wp_callQ _ _ (by go_simp) (HD.out _ V22 (ZS_two (by omega) M_V22)) ?_
                rintro e V23 ⟨rfl, hb23⟩
                refine ⟨_, rfl, ?_⟩
                have S_V23 := S_V22.keep hb23
                have G_V23 := (hb23.block _ (Array.getElem?_eq_some_iff.1 G_V22).1).trans G_V22
                have R_V23 := ownsRow_below R_V22 hb23
                have N_V23 := ownsRow_below N_V22 hb23
                have M_V23 := ownsRow_below M_V22 hb23
                try dsimp only
                refine hK.out (Act.put _ (some 47) _) _ S_V23 (fun _ => ?_)
                try simp only [Act.put, List.setIfInBounds_toArray, List.set_cons_zero, List.set_cons_succ]
                clear hK K
                refine wpAnyH_take (i := 8) (oi := ⟨some 48, _, _, _, _, _⟩) (v := .agg (FC 5 (lb XV)).toArray) rfl (by kernel_rfl) (by kernel_rfl) (by kernel_rfl) (fun _ _ _ h => h) (Or.inl ⟨by kernel_rfl, by intro wx _; exact field_v (by rfl) (by rfl)⟩) (by assumption) ?_
                try simp only [Act.put, List.setIfInBounds_toArray, List.set_cons_zero, List.set_cons_succ]
                refine wpAnyH_ready (rs := [10]) (by kernel_rfl) (by simp) ?_
                refine AllReadyH.cons rfl (fun K hK => ?_) AllReadyH.nil
                · refine step_store rfl 26 _ _ rfl _ rfl (.agg (FC 5 (lb XV)).toArray) rfl _ (run_storeAt_row (cells := (FC 5 (lb XV)).toArray) G_V23 (IN5 _) (SZ5 _ _) (FC_one 5 _)) ?_
                  generalize hW24 : World.setRow V23 _ _ = V24
                  have S_V24 := hW24 ▸ S_V23.row hg0 (HNE.out _ hg0)
                  have G_V24 := hW24 ▸ setRow_heap _ _ _ _ _ _ G_V23
                  have R_V24 := World.ownsRow_nil V24 W0.heap.size 3 1
                  have N_V24 := World.ownsRow_nil V24 W0.heap.size 3 1
                  have M_V24 := World.ownsRow_nil V24 W0.heap.size 3 1
                  try dsimp only
                  refine hK.out (Act.put _ none _) _ S_V24 (fun _ => ?_)
                  try simp only [Act.put, List.setIfInBounds_toArray, List.set_cons_zero, List.set_cons_succ]
                  clear hK K
                  refine wpAnyH_done (by kernel_rfl) ?_ _
                  go_wp2_with fail
                  go_meet
                  exact ⟨_, rfl, Lib.hid (by have s : SQ L w _ := ⟨S_V24.1, below_up H00.out.2 S_V24.2⟩; rw [HLL.out] at s; exact s.add G_V24)⟩
    case rest =>
      obtain ⟨g10, rfl, S⟩ := hcut
      have D1 := Lib.hid (fun wx (hx : Below w.heap.size w wx) => best_calls _ zs m1 wx (HZ.out wx hx))
      have D2 := Lib.hid (fun wx (hx : Below w.heap.size w wx) => may_calls _ zs level m0 wx (HZ.out wx hx))
      have D3 := Lib.hid (fun wx (hx : Below w.heap.size w wx) => value_calls _ zs level wx (HZ.out wx hx))
      have C1 := Lib.hid (fun wx => lcmp_calls (bst (zs ++ ys) m0 256).1 (bst zs m0 256).1 wx hx2 hx0)
      have C2 := Lib.hid (fun wx => lcmp_calls (bst zs m1 256).1 (bst zs m0 256).1 wx hx1 hx0)
      have C3 := Lib.hid (fun wx => lcmp_calls (valS zs level) (bst zs m0 256).1 wx hval hx0)
      have u1 : decide (0 ≤ cmpI (bst (zs ++ ys) m0 256).1 (bst zs m0 256).1) = true := decide_eq_true (cmp_le hle1)
      have u2 : decide (cmpI (bst zs m1 256).1 (bst zs m0 256).1 ≤ 0) = true := decide_eq_true (cmp_ge hle2)
      have u3 := Lib.hid (fun h => (decide_eq_true (cmp_ge (hle3 h)) : decide (cmpI (valS zs level) (bst zs m0 256).1 ≤ 0) = true))
      have y1 := cell_of_row _ g1 1 _ _ _ S.out.a2
      simp only [List.getElem?_toArray, List.getElem?_cons_zero, List.getElem?_cons_succ] at y1
      clear S3 D0 X0 X1 HZ HY hx0 hx1 hx2 hle1 hle2 hle3 hval HI
      generalize cmpI (bst (zs ++ ys) m0 256).1 (bst zs m0 256).1 = c1 at *
      generalize cmpI (bst zs m1 256).1 (bst zs m0 256).1 = c2 at *
      generalize cmpI (valS zs level) (bst zs m0 256).1 = c3 at *
      generalize bst (zs ++ ys) m0 256 = by_ at *
      generalize bst zs m0 256 = bx at *
      generalize bst zs m1 256 = bz at *
      generalize valS zs level = vs at *
      unfold UV at C1 C2 C3 D3
      go_wp2_with fail
      refine (D1.out _ S.out.2).mono ?_
      rintro e w3 ⟨rfl, hb3⟩
      have S5 := Lib.hid ((S.out.keep hb3).alloc (oN5 bz.1))
      clear hb3 S y1 D1
      go_wp2_with (first | (refine wpList_value (by rfl) _ (field_v (by rfl) (by rfl)) ?_) | (refine wpList_store_last rfl 26 _ _ rfl _ (FC 5 (lb bz.1)).toArray rfl rfl (IN5 _) (by rw [FC_size]; rfl) (FC_one _ _) ?_))
      simp only [Act.put, List.setIfInBounds_toArray, List.set_cons_zero, List.set_cons_succ]
      change Code.wp _ _ _ _ (w3.alloc (oN5 bz.1))
      generalize World.alloc w3 _ = W at *
      have L1 := Lib.hid (fun wx (hx : Below W.heap.size W wx) => ldAt5 (f := lb bz.1) (S5.out.keep hx).a0)
      have L2 := Lib.hid (fun wx (hx : Below W.heap.size W wx) => ldAt5 (f := lb by_.1) (S5.out.keep hx).a1)
      have L3 := Lib.hid (fun wx (hx : Below W.heap.size W wx) => ldAt5 (f := lb bx.1) (S5.out.keep hx).a2)
      have L4 := Lib.hid (fun wx (hx : Below W.heap.size W wx) => ldI (show wx.cell? ⟨g1, 0, none⟩ = some (.int .i64 m0) from cell_of_row wx g1 0 _ _ _ (S5.out.keep hx).a3))
      have P1 := Lib.hid (fun wx (_ : Below W.heap.size W wx) => C1.out wx)
      have P2 := Lib.hid (fun wx (_ : Below W.heap.size W wx) => C2.out wx)
      have P3 := Lib.hid (fun wx (_ : Below W.heap.size W wx) => C3.out wx)
      have P4 := Lib.hid (fun wx (hx : Below W.heap.size W wx) => D2.out wx (S5.out.keep hx).2)
      have P5 := Lib.hid (fun wx (hx : Below W.heap.size W wx) => D3.out wx (S5.out.keep hx).2)
      have P6 := Lib.hid (fun wx (_ : Below W.heap.size W wx) => A0.out wx)
      clear C1 C2 C3 D2 D3 A0
      rcases hm : mayS zs level m0 with _ | _
      · rw [hm] at P4
        clear u3 hm
        refine wp_region_quiet_below (by kernel_rfl) (by kernel_rfl) ?_
        repeat (first | go_big_quiet_skip | ((refine wpQuiet_load rfl 26 _ rfl _ rfl _ (rg_fact L1.out) ?_); simp only [Act.put, List.setIfInBounds_toArray, List.set_cons_zero, List.set_cons_succ]) | ((refine wpQuiet_load rfl 26 _ rfl _ rfl _ (rg_fact L2.out) ?_); simp only [Act.put, List.setIfInBounds_toArray, List.set_cons_zero, List.set_cons_succ]) | ((refine wpQuiet_load rfl 26 _ rfl _ rfl _ (rg_fact L3.out) ?_); simp only [Act.put, List.setIfInBounds_toArray, List.set_cons_zero, List.set_cons_succ]) | ((refine wpQuiet_load rfl 3 _ rfl _ rfl _ (rg_fact L4.out) ?_); simp only [Act.put, List.setIfInBounds_toArray, List.set_cons_zero, List.set_cons_succ]) | ((refine wpQuiet_call (by rfl) 22 _ (fun wx => call_run (by rfl) (by rfl) (Go.Proofs.enters_of Try.func22 (by kernel_rfl) rfl)) _ (rg_of P1.out) ?_); simp only [Act.put, List.setIfInBounds_toArray, List.set_cons_zero, List.set_cons_succ]) | ((refine wpQuiet_call (by rfl) 22 _ (fun wx => call_run (by rfl) (by rfl) (Go.Proofs.enters_of Try.func22 (by kernel_rfl) rfl)) _ (rg_of P2.out) ?_); simp only [Act.put, List.setIfInBounds_toArray, List.set_cons_zero, List.set_cons_succ]) | ((refine wpQuiet_call (by rfl) 15 _ (fun wx => call_run (by rfl) (by rfl) (Go.Proofs.enters_of Try.func15 (by kernel_rfl) rfl)) _ (rg_of P4.out) ?_); simp only [Act.put, List.setIfInBounds_toArray, List.set_cons_zero, List.set_cons_succ]) | ((refine wpQuiet_call (by rfl) 13 _ (fun wx => call_run (by rfl) (by rfl) (Go.Proofs.enters_of Try.func13 (by kernel_rfl) rfl)) _ (rg_of P6.out) ?_); simp only [Act.put, List.setIfInBounds_toArray, List.set_cons_zero, List.set_cons_succ]) | go_big_quiet_step (fail) | quiet_step (fail))
        refine wpQuiet_nil ?_
        rintro _ ⟨rp, rfl⟩
        have hb5 := below_regrown W rp.d rp.os
        generalize Sort.grow (redrawn W rp.d) rp.os = w5 at *
        have hfin := Lib.hid (below_up S5.out.2 hb5)
        clear hb5
        go_wp2_with fail
        go_ret
        exact ⟨rfl, hfin.out⟩
      · rw [hm] at P4
        have u3 := u3.out hm
        clear hm
        refine wp_region_quiet_below (by kernel_rfl) (by kernel_rfl) ?_
        repeat (first | go_big_quiet_skip | ((refine wpQuiet_load rfl 26 _ rfl _ rfl _ (rg_fact L1.out) ?_); simp only [Act.put, List.setIfInBounds_toArray, List.set_cons_zero, List.set_cons_succ]) | ((refine wpQuiet_load rfl 26 _ rfl _ rfl _ (rg_fact L2.out) ?_); simp only [Act.put, List.setIfInBounds_toArray, List.set_cons_zero, List.set_cons_succ]) | ((refine wpQuiet_load rfl 26 _ rfl _ rfl _ (rg_fact L3.out) ?_); simp only [Act.put, List.setIfInBounds_toArray, List.set_cons_zero, List.set_cons_succ]) | ((refine wpQuiet_load rfl 3 _ rfl _ rfl _ (rg_fact L4.out) ?_); simp only [Act.put, List.setIfInBounds_toArray, List.set_cons_zero, List.set_cons_succ]) | ((refine wpQuiet_call (by rfl) 22 _ (fun wx => call_run (by rfl) (by rfl) (Go.Proofs.enters_of Try.func22 (by kernel_rfl) rfl)) _ (rg_of P1.out) ?_); simp only [Act.put, List.setIfInBounds_toArray, List.set_cons_zero, List.set_cons_succ]) | ((refine wpQuiet_call (by rfl) 22 _ (fun wx => call_run (by rfl) (by rfl) (Go.Proofs.enters_of Try.func22 (by kernel_rfl) rfl)) _ (rg_of P2.out) ?_); simp only [Act.put, List.setIfInBounds_toArray, List.set_cons_zero, List.set_cons_succ]) | ((refine wpQuiet_call (by rfl) 22 _ (fun wx => call_run (by rfl) (by rfl) (Go.Proofs.enters_of Try.func22 (by kernel_rfl) rfl)) _ (rg_of P3.out) ?_); simp only [Act.put, List.setIfInBounds_toArray, List.set_cons_zero, List.set_cons_succ]) | ((refine wpQuiet_call (by rfl) 15 _ (fun wx => call_run (by rfl) (by rfl) (Go.Proofs.enters_of Try.func15 (by kernel_rfl) rfl)) _ (rg_of P4.out) ?_); simp only [Act.put, List.setIfInBounds_toArray, List.set_cons_zero, List.set_cons_succ]) | ((refine wpQuiet_call (by rfl) 14 _ (fun wx => call_run (by rfl) (by rfl) (Go.Proofs.enters_of Try.func14 (by kernel_rfl) rfl)) _ (rg_of P5.out) ?_); simp only [Act.put, List.setIfInBounds_toArray, List.set_cons_zero, List.set_cons_succ]) | ((refine wpQuiet_call (by rfl) 13 _ (fun wx => call_run (by rfl) (by rfl) (Go.Proofs.enters_of Try.func13 (by kernel_rfl) rfl)) _ (rg_of P6.out) ?_); simp only [Act.put, List.setIfInBounds_toArray, List.set_cons_zero, List.set_cons_succ]) | go_big_quiet_step (fail) | quiet_step (fail))
        refine wpQuiet_nil ?_
        rintro _ ⟨rp, rfl⟩
        have hb5 := below_regrown W rp.d rp.os
        generalize Sort.grow (redrawn W rp.d) rp.os = w5 at *
        have hfin := Lib.hid (below_up S5.out.2 hb5)
        clear hb5
        go_wp2_with fail
        go_ret
        exact ⟨rfl, hfin.out⟩
end Go.Proofs.Ytfelbjiflceopaa.Sc
