/- The walk of a stream's own step. -/
import Derived.Test.YtcaocnlchfbeaaaStmU
import Derived.Test.YtcaocnlchfbeaaaStmMath
import Derived.Test.YtcaocnlchfbeaaaPd
namespace Go.Proofs.Ytcaocnlchfbeaaa.Stm
open Go.RowKit Go.Proofs.Ytcaocnlchfbeaaa.Mk Go.Proofs.Ytcaocnlchfbeaaa.Op Go.Proofs.Ytcaocnlchfbeaaa.Hd Go.Proofs.Ytcaocnlchfbeaaa.St Go.Proofs.Ytcaocnlchfbeaaa.Cur Go.Proofs.Ytcaocnlchfbeaaa.Stp Go.Proofs.Ytcaocnlchfbeaaa.Tk Go.Proofs.Ytcaocnlchfbeaaa.Pf
theorem st_ls {w : World} {a : Addr} {A : Option Addr} {n k : Nat} {old : Value} (h : w.cell? a = some old) (hf : w.frozen? a = false) : (Instr.storeAt 23 (.pointer (some a)) (.slice A n k)).run Try.prog w = .ok () (w.setCell a (.slice A n k)) := by go_simp
theorem ld_ls {w : World} {a : Addr} {A : Option Addr} {n k : Nat} (h : w.cell? a = some (.slice A n k)) : (Instr.loadAt 23 (.pointer (some a))).run Try.prog w = .ok (.slice A n k) w := by go_simp
/-- what holds while a step is laid behind the list -/
structure SP (k b g : Nat) (s : Stm.St) (c : C) (v : Value) (ts : List Tr) (t : Tr) (w0 W : World) : Prop where
  cu : CU b c W
  sm : SM k s W
  rw_ : RW (k + 1) W v ts
  box : W.heap[g]? = some (sB t.h t.o t.v)
  own : W.ownsRow (k + 1) 35 32 t.v t.o.p.length (t.o.p.flatMap hc)
  but : But (fun i => k ≤ i) w0 W
  gne : some g ≠ v.ownBlock
structure SP2 (k b : Nat) (s : Stm.St) (c : C) (v : Value) (ts : List Tr) (w0 W : World) : Prop where
  cu : CU b c W
  sm : SM k s W
  rw_ : RW (k + 1) W v ts
  but : But (fun i => k ≤ i) w0 W
section
variable {k b g : Nat} {s : Stm.St} {c : C} {v v' : Value} {ts : List Tr} {t : Tr} {w0 W W' : World}
theorem SP.keep (h : SP k b g s c v ts t w0 W) (hb : Below W.heap.size W W') : SP k b g s c v ts t w0 W' :=
  ⟨h.cu.keep hb, h.sm.keep hb, h.rw_.below hb, (hb.block _ (Array.getElem?_eq_some_iff.1 h.box).1).trans h.box, own_but h.own (But.of_below (S := fun _ => False) hb) (fun _ e => e.elim), h.but.trans (But.of_below (S := fun _ => False) hb) (fun _ _ e => e.elim), h.gne⟩
theorem own_ge {B : Nat} {e : TypeId} {sz n : Nat} {xs : List Value} {i : Nat} (h : W.ownsRow B e sz v n xs) (hi : v.ownBlock = some i) : B ≤ i := by
  refine Decidable.byContradiction fun hn => ?_
  exact own_lo2 h (g := i) (by omega) hi
theorem SP.app (h : SP k b g s c v ts t w0 W) (ho : W'.ownsRow (k + 1) 43 69 v' (ts.length + 1) (ts.flatMap encS ++ encS t)) (hg : W.grownBy W' v.ownBlock) (ht : t.h.Ok) (h32 : ∀ x ∈ t.o.p, x.length = 32) (h63 : t.o.p.length ≤ 63) :
    SP2 k b s c v' (ts ++ [t]) w0 W' :=
  ⟨(hg.block b h.cu.lt (cu_ne h.cu h.rw_.row)).trans h.cu, (hg.block k h.sm.lt (fun e => own_lo2 h.rw_.row (Nat.lt_succ_self k) e.symm)).trans h.sm, RW.app h.rw_ hg ho ⟨ht, h.own, h32, h63⟩, But.grown h.but hg (fun x _ e => by have := own_ge h.rw_.row e; omega)⟩
theorem SP2.put (h : SP2 k b s c v ts w0 W) (hne : b ≠ k) : SP2 k b { s with l := v } c v ts w0 (W.setCell ⟨k, 4, none⟩ v) :=
  ⟨(Below.heap_setCell _ _ _ _ hne).trans h.cu, h.sm.set4 v, h.rw_.but (But.setCell (S := fun i => i = k) (But.refl _ _) (p := ⟨k, 4, none⟩) rfl v) (fun i e => by omega), But.setCell h.but (Nat.le_refl k) v⟩
theorem SP2.put3 (h : SP2 k b s c v ts w0 W) (hne : b ≠ k) (x : Int) : SP2 k b { s with n := x } c v ts w0 (W.setCell ⟨k, 3, none⟩ (.int .i64 x)) :=
  ⟨(Below.heap_setCell _ _ _ _ hne).trans h.cu, h.sm.set3 x, h.rw_.but (But.setCell (S := fun i => i = k) (But.refl _ _) (p := ⟨k, 3, none⟩) rfl _) (fun i e => by omega), But.setCell h.but (Nat.le_refl k) _⟩
end
theorem own_cu {W W' : World} {B b : Nat} {c : C} {e : TypeId} {sz n : Nat} {v : Value} {xs : List Value} (h : W.ownsRow B e sz v n xs) (hu : CU b c W) (he : e = 43 ∨ e = 35) (hb : CW b W W') : W'.ownsRow B e sz v n xs := by
  obtain ⟨h1, h2⟩ := h
  refine ⟨h1, ?_⟩
  rcases h2 with h2 | ⟨g, cap, cur, e1, hg, hh, hr⟩
  · exact .inl h2
  · have hlt : g < W.heap.size := (Array.getElem?_eq_some_iff.1 hh).1
    refine .inr ⟨g, cap, cur, e1, hg, (hb.block g hlt (fun hS => ?_)).trans hh, hr⟩
    have h3 : W.heap[b]? = _ := hu
    rw [← hS, hh] at h3
    rcases he with rfl | rfl <;> simp at h3
theorem rw_cu {W W' : World} {B b : Nat} {c : C} {v : Value} {ts : List Tr} (h : RW B W v ts) (hu : CU b c W) (hb : CW b W W') : RW B W' v ts :=
  ⟨own_cu h.row hu (.inl rfl) hb, fun t ht => ⟨(h.each t ht).1, own_cu (h.each t ht).2.1 hu (.inr rfl) hb, (h.each t ht).2.2⟩⟩
/-- what a step leaves -/
def StepQ (k : Nat) (s : Stm.St) (ts : List Tr) (s' : Stm.St) (W : World) : Prop :=
  ∃ ts', RW (k + 1) W s'.l ts' ∧ (((stepC ⟨s.r, 0⟩).2.e ≠ 0 ∧ s' = s ∧ ts' = ts) ∨ ((stepC ⟨s.r, 0⟩).2.e = 0 ∧ s' = ⟨s.m, s.r, s.g, s.n - 1, s'.l, s.e⟩ ∧ ts'.map Tr.ho = ts.map Tr.ho ++ [(stepC ⟨s.r, 0⟩).1]))
theorem StepQ.but {k : Nat} {s : Stm.St} {ts : List Tr} (s' : Stm.St) (W W' : World) (h : StepQ k s ts s' W) (hb : But (fun i => i = k) W W') : StepQ k s ts s' W' := by
  obtain ⟨ts', h1, h2⟩ := h
  exact ⟨ts', h1.but hb (fun i e => by omega), h2⟩
set_option maxHeartbeats 8000000 in
set_option maxRecDepth 100000 in
theorem step_calls (k b : Nat) (s : Stm.St) (ts : List Tr) (w : World) (h : SM k s w) (hu : CU b ⟨s.r, 0⟩ w) (hkb : k < b) (hrw : RW (k + 1) w s.l ts) (hn0 : 0 < s.n) (hn1 : s.n ≤ 1024) (htl : ts.length ≤ 1024) (hl : s.r.length ≤ 140737488351232) :
    Calls Try.prog 58 #[.pointer (some ⟨k, 0, none⟩), .pointer (some ⟨b, 0, none⟩)] w fun r w' => r = .returned (.tuple #[]) ∧ CU b (stepC ⟨s.r, 0⟩).2 w' ∧ (∃ s', s'.r = s.r ∧ StepQ k s ts s' w' ∧ SM k s' w') ∧ But (fun i => i = b ∨ i = k ∨ k ≤ i) w w' := by
  have HT2 := Lib.hid (takeStep_calls b ⟨s.r, 0⟩ w hu (by show s.r.length ≤ _; omega))
  have hkk := stepC_ok ⟨s.r, 0⟩
  generalize hx : stepC ⟨s.r, 0⟩ = x at *
  obtain ⟨⟨hd, o⟩, c2⟩ := x
  simp only at HT2 hkk
  have KD := Lib.hid hkk
  have HX := Lib.hid hx
  have hks := h.lt
  have hbk : b ≠ k := by omega
  have H0 := Lib.hid (And.intro h hrw)
  clear hkk h hrw hl hx
  obtain ⟨m, rr, gg, n, l, e⟩ := s
  dsimp only at *
  obtain ⟨AL, cL, rfl⟩ := own_slice H0.out.2.row
  go_enter Try.func58, Try.ntmps58
  go_wp2_with fail
  refine HT2.out.mono ?_
  rintro r w6 ⟨v6, rfl, ⟨sv, rfl, hso, h32, h63⟩, hu6, hw6⟩
  obtain ⟨A6, c6, rfl⟩ := own_slice hso
  have hsm6 := H0.out.1.but hw6 (fun e => by omega)
  have hrw6 := rw_cu H0.out.2 hu hw6
  have hB7 : Below w6.heap.size w6 (w6.alloc (sB hd o (.slice A6 o.p.length c6))) := (Below.refl _ _).alloc (Nat.le_refl _) _
  have hP7 : SP k b w6.heap.size ⟨m, rr, gg, n, .slice AL ts.length cL, e⟩ c2 (.slice AL ts.length cL) ts ⟨hd, o, .slice A6 o.p.length c6⟩ w (w6.alloc (sB hd o (.slice A6 o.p.length c6))) :=
    ⟨hu6.keep hB7, hsm6.keep hB7, hrw6.below hB7, heap_new _ _, own_but (own_mono hso (by omega)) (But.of_below (S := fun _ => False) hB7) (fun _ e => e.elim), (hw6.mono (fun i _ e => by rw [e]; omega)).trans (But.of_below (S := fun _ => False) hB7) (fun _ _ e => e.elim), fun e => by have := (hrw6.row.lt _ e.symm).2; omega⟩
  have HO := Lib.hid (And.intro h32 h63)
  obtain ⟨i0, hi, hz0, hz1, hz2⟩ := info_parts IStp
  have HI := Lib.hid (And.intro hi (And.intro hz0 (And.intro hz1 hz2)))
  have hsz : (sc hd o (.slice A6 o.p.length c6)).toArray.size = 69 := by rw [List.size_toArray, sc_len KD.out]
  have HSL := Lib.hid (sc_len KD.out o (.slice A6 o.p.length c6))
  have HON := Lib.hid (fun u (hu : u ∈ sc hd o (.slice A6 o.p.length c6)) => Array.all_eq_true_iff_forall_mem.1 (one_sc (h := hd) o A6 o.p.length c6) u (by simpa using hu))
  have P7 := Lib.hid hP7
  obtain ⟨g, hg⟩ : ∃ g, g = w6.heap.size := ⟨_, rfl⟩
  rw [← hg] at P7
  clear hso h32 h63 hu6 hw6 hsm6 hrw6 hB7 hP7 hi hz0 hz1 hz2 H0 HT2 hu hks
  unfold sB at P7
  go_upto_region 1 with (refine wpList_store_last rfl 43 _ _ rfl _ (sc hd o (.slice A6 o.p.length c6)).toArray rfl rfl (ISt KD.out _ _) (zsz KD.out _ _) (one_sc _ _ _ _) ?_)
  rw [← hg]
  clear hg
  generalize World.alloc w6 _ = W7 at *
  have HE := Lib.hid (err_calls b c2 W7 P7.out.cu)
  by_cases he : c2.e = 0
  · rw [he] at HE
    have HE0 := Lib.hid he
    clear he
    go_wp2_with fail
    refine HE.out.mono ?_
    rintro r w8 ⟨rfl, hw8⟩
    rw [hw8]
    clear hw8 w8 HE
    go_wp2_with fail
    have P_X0 := P7.out.keep (Below.refl _ _).drew
    have hks := P_X0.sm.lt
    refine wp_region_any (by kernel_rfl) ?_
    change wpAny _ _ _ _ _ _ _ (World.drew _)
    generalize World.drew W7 = X0 at *
    refine wpAny_take (i := 0) (oi := ⟨some 10, _, _, _, _, _⟩) (v := .pointer (some ⟨k, 0, none⟩)) rfl (by kernel_rfl) (by kernel_rfl) (by kernel_rfl) (fun _ _ _ h => h) (Or.inl ⟨by rfl, by intro wx; go_simp⟩) ?_
    try simp only [Act.put, List.setIfInBounds_toArray, List.set_cons_zero, List.set_cons_succ]
    refine wpAny_take (i := 1) (oi := ⟨some 11, _, _, _, _, _⟩) (v := .pointer (some ⟨k, 0, none⟩)) rfl (by kernel_rfl) (by kernel_rfl) (by kernel_rfl) (fun _ _ _ h => h) (Or.inl ⟨by rfl, by intro wx; go_simp⟩) ?_
    try simp only [Act.put, List.setIfInBounds_toArray, List.set_cons_zero, List.set_cons_succ]
    refine wpAny_take (i := 2) (oi := ⟨some 12, _, _, _, _, _⟩) (v := .pointer (some ⟨k, 0, none⟩)) rfl (by kernel_rfl) (by kernel_rfl) (by kernel_rfl) (fun _ _ _ h => h) (Or.inl ⟨by rfl, by intro wx; go_simp⟩) ?_
    try simp only [Act.put, List.setIfInBounds_toArray, List.set_cons_zero, List.set_cons_succ]
    refine wpAny_take (i := 3) (oi := ⟨some 13, _, _, _, _, _⟩) (v := .pointer (some ⟨k, 4, none⟩)) rfl (by kernel_rfl) (by kernel_rfl) (by kernel_rfl) (fun _ _ _ h => h) (Or.inl ⟨by rfl, by intro wx; go_simp⟩) ?_
    try simp only [Act.put, List.setIfInBounds_toArray, List.set_cons_zero, List.set_cons_succ]
    refine wpAny_ready (rs := [4, 5]) (by kernel_rfl) (by simp) ?_
    refine AllReady.cons rfl (fun K hK => ?_) (AllReady.cons rfl (fun K hK => ?_) AllReady.nil)
    · refine step_load rfl 23 _ rfl _ rfl (.slice AL ts.length cL) (ld_ls P_X0.sm.c4) ?_
      refine hK (Act.put _ (some 14) _) _ ?_
      try simp only [Act.put, List.setIfInBounds_toArray, List.set_cons_zero, List.set_cons_succ]
      clear hK K
      refine wpAny_ready (rs := [5]) (by kernel_rfl) (by simp) ?_
      refine AllReady.cons rfl (fun K hK => ?_) AllReady.nil
      · refine step_load rfl 43 _ rfl _ rfl (.agg (sc hd o (.slice A6 o.p.length c6)).toArray) (ldSt KD.out P_X0.box) ?_
        refine hK (Act.put _ (some 15) _) _ ?_
        try simp only [Act.put, List.setIfInBounds_toArray, List.set_cons_zero, List.set_cons_succ]
        clear hK K
        refine wpAny_ready (rs := [6]) (by kernel_rfl) (by simp) ?_
        refine AllReady.cons rfl (fun K hK => ?_) AllReady.nil
        · refine step_buildOne rfl 23 43 69 (.tmp 15) rfl (sc hd o (.slice A6 o.p.length c6)).toArray _ _ rfl hsz IStp USs (by decide) (by decide) ?_
          generalize hW3 : World.alloc X0 _ = V3
          have hb3 : Below X0.heap.size X0 V3 := by rw [← hW3]; exact (Below.refl _ _).alloc (Nat.le_refl _) _
          have N_V3 : V3.heap[X0.heap.size]? = some (.cells (sc hd o (.slice A6 o.p.length c6)).toArray 43 (0, 0)) := by rw [← hW3]; exact heap_new _ _
          clear hW3
          have P_V3 := P_X0.keep hb3
          try dsimp only
          refine hK (Act.put _ (some 16) _) _ ?_
          try simp only [Act.put, List.setIfInBounds_toArray, List.set_cons_zero, List.set_cons_succ]
          clear hK K
          refine wpAny_ready (rs := [7]) (by kernel_rfl) (by simp) ?_
          refine AllReady.cons rfl (fun K hK => ?_) AllReady.nil
          · refine step_append_lies _ (by rfl) (.tmp 14) (.tmp 16) 23 (by rfl) (k + 1) 43 i0 _ 69 120 USs HI.out.1 HI.out.2.1 HI.out.2.2.1 HI.out.2.2.2 zStp (by decide) _ _ _ (by rfl) P_V3.rw_.row _ 1 1 (sc hd o (.slice A6 o.p.length c6)) (by rfl) HSL.out (World.news_of_block N_V3) HON.out (by decide) (by simp only [maxLen]; omega) (by omega) P_V3.sm.lt _ rfl ?_
            intro gx4 cap4 V4 own4 gro4 _ _
            have P_V4 := SP.app (t := ⟨hd, o, .slice A6 o.p.length c6⟩) P_V3 own4 gro4 KD.out HO.out.1 HO.out.2
            have N_V4 := True.intro
            try dsimp only
            refine hK (Act.put _ (some 17) _) _ ?_
            try simp only [Act.put, List.setIfInBounds_toArray, List.set_cons_zero, List.set_cons_succ]
            clear hK K
            refine wpAny_take (i := 8) (oi := ⟨some 18, _, _, _, _, _⟩) (v := .pointer (some ⟨k, 0, none⟩)) rfl (by kernel_rfl) (by kernel_rfl) (by kernel_rfl) (fun _ _ _ h => h) (Or.inl ⟨by rfl, by intro wx; go_simp⟩) ?_
            try simp only [Act.put, List.setIfInBounds_toArray, List.set_cons_zero, List.set_cons_succ]
            refine wpAny_take (i := 9) (oi := ⟨some 19, _, _, _, _, _⟩) (v := .pointer (some ⟨k, 4, none⟩)) rfl (by kernel_rfl) (by kernel_rfl) (by kernel_rfl) (fun _ _ _ h => h) (Or.inl ⟨by rfl, by intro wx; go_simp⟩) ?_
            try simp only [Act.put, List.setIfInBounds_toArray, List.set_cons_zero, List.set_cons_succ]
            refine wpAny_ready (rs := [10]) (by kernel_rfl) (by simp) ?_
            refine AllReady.cons rfl (fun K hK => ?_) AllReady.nil
            · refine step_store rfl 23 _ _ rfl _ rfl _ rfl _ (st_ls P_V4.sm.c4 (P_V4.sm.fz 4)) ?_
              have Y5 := P_V4.put hbk
              generalize World.setCell V4 _ _ = V5 at *
              have P_V5 := Y5
              have N_V5 := True.intro
              try dsimp only
              refine hK (Act.put _ none _) _ ?_
              try simp only [Act.put, List.setIfInBounds_toArray, List.set_cons_zero, List.set_cons_succ]
              clear hK K
              refine wpAny_done (by kernel_rfl) ?_ _
              have c3 := P_V5.sm.c3
              have f3 := P_V5.sm.fz 3
              have PZ := Lib.hid (P_V5.put3 hbk (n - 1))
              have q1 : IntKind.i64.wrap (n - 1) = n - 1 := IntWalk.i64_in _ (by omega)
              clear P_V5
              go_wp2_with fail
              go_end0
              exact ⟨rfl, PZ.out.cu, ⟨_, rfl, ⟨ts ++ [⟨hd, o, .slice A6 o.p.length c6⟩], PZ.out.rw_, .inr ⟨by rw [HX.out]; exact HE0.out, rfl, by rw [HX.out]; simp [Tr.ho]⟩⟩, PZ.out.sm⟩, PZ.out.but.mono (fun i _ e => .inr (.inr e))⟩
    · refine step_load rfl 43 _ rfl _ rfl (.agg (sc hd o (.slice A6 o.p.length c6)).toArray) (ldSt KD.out P_X0.box) ?_
      refine hK (Act.put _ (some 15) _) _ ?_
      try simp only [Act.put, List.setIfInBounds_toArray, List.set_cons_zero, List.set_cons_succ]
      clear hK K
      refine wpAny_ready (rs := [4, 6]) (by kernel_rfl) (by simp) ?_
      refine AllReady.cons rfl (fun K hK => ?_) (AllReady.cons rfl (fun K hK => ?_) AllReady.nil)
      · refine step_load rfl 23 _ rfl _ rfl (.slice AL ts.length cL) (ld_ls P_X0.sm.c4) ?_
        refine hK (Act.put _ (some 14) _) _ ?_
        try simp only [Act.put, List.setIfInBounds_toArray, List.set_cons_zero, List.set_cons_succ]
        clear hK K
        refine wpAny_ready (rs := [6]) (by kernel_rfl) (by simp) ?_
        refine AllReady.cons rfl (fun K hK => ?_) AllReady.nil
        · refine step_buildOne rfl 23 43 69 (.tmp 15) rfl (sc hd o (.slice A6 o.p.length c6)).toArray _ _ rfl hsz IStp USs (by decide) (by decide) ?_
          generalize hW8 : World.alloc X0 _ = V8
          have hb8 : Below X0.heap.size X0 V8 := by rw [← hW8]; exact (Below.refl _ _).alloc (Nat.le_refl _) _
          have N_V8 : V8.heap[X0.heap.size]? = some (.cells (sc hd o (.slice A6 o.p.length c6)).toArray 43 (0, 0)) := by rw [← hW8]; exact heap_new _ _
          clear hW8
          have P_V8 := P_X0.keep hb8
          try dsimp only
          refine hK (Act.put _ (some 16) _) _ ?_
          try simp only [Act.put, List.setIfInBounds_toArray, List.set_cons_zero, List.set_cons_succ]
          clear hK K
          refine wpAny_ready (rs := [7]) (by kernel_rfl) (by simp) ?_
          refine AllReady.cons rfl (fun K hK => ?_) AllReady.nil
          · refine step_append_lies _ (by rfl) (.tmp 14) (.tmp 16) 23 (by rfl) (k + 1) 43 i0 _ 69 120 USs HI.out.1 HI.out.2.1 HI.out.2.2.1 HI.out.2.2.2 zStp (by decide) _ _ _ (by rfl) P_V8.rw_.row _ 1 1 (sc hd o (.slice A6 o.p.length c6)) (by rfl) HSL.out (World.news_of_block N_V8) HON.out (by decide) (by simp only [maxLen]; omega) (by omega) P_V8.sm.lt _ rfl ?_
            intro gx9 cap9 V9 own9 gro9 _ _
            have P_V9 := SP.app (t := ⟨hd, o, .slice A6 o.p.length c6⟩) P_V8 own9 gro9 KD.out HO.out.1 HO.out.2
            have N_V9 := True.intro
            try dsimp only
            refine hK (Act.put _ (some 17) _) _ ?_
            try simp only [Act.put, List.setIfInBounds_toArray, List.set_cons_zero, List.set_cons_succ]
            clear hK K
            refine wpAny_take (i := 8) (oi := ⟨some 18, _, _, _, _, _⟩) (v := .pointer (some ⟨k, 0, none⟩)) rfl (by kernel_rfl) (by kernel_rfl) (by kernel_rfl) (fun _ _ _ h => h) (Or.inl ⟨by rfl, by intro wx; go_simp⟩) ?_
            try simp only [Act.put, List.setIfInBounds_toArray, List.set_cons_zero, List.set_cons_succ]
            refine wpAny_take (i := 9) (oi := ⟨some 19, _, _, _, _, _⟩) (v := .pointer (some ⟨k, 4, none⟩)) rfl (by kernel_rfl) (by kernel_rfl) (by kernel_rfl) (fun _ _ _ h => h) (Or.inl ⟨by rfl, by intro wx; go_simp⟩) ?_
            try simp only [Act.put, List.setIfInBounds_toArray, List.set_cons_zero, List.set_cons_succ]
            refine wpAny_ready (rs := [10]) (by kernel_rfl) (by simp) ?_
            refine AllReady.cons rfl (fun K hK => ?_) AllReady.nil
            · refine step_store rfl 23 _ _ rfl _ rfl _ rfl _ (st_ls P_V9.sm.c4 (P_V9.sm.fz 4)) ?_
              have Y10 := P_V9.put hbk
              generalize World.setCell V9 _ _ = V10 at *
              have P_V10 := Y10
              have N_V10 := True.intro
              try dsimp only
              refine hK (Act.put _ none _) _ ?_
              try simp only [Act.put, List.setIfInBounds_toArray, List.set_cons_zero, List.set_cons_succ]
              clear hK K
              refine wpAny_done (by kernel_rfl) ?_ _
              have c3 := P_V10.sm.c3
              have f3 := P_V10.sm.fz 3
              have PZ := Lib.hid (P_V10.put3 hbk (n - 1))
              have q1 : IntKind.i64.wrap (n - 1) = n - 1 := IntWalk.i64_in _ (by omega)
              clear P_V10
              go_wp2_with fail
              go_end0
              exact ⟨rfl, PZ.out.cu, ⟨_, rfl, ⟨ts ++ [⟨hd, o, .slice A6 o.p.length c6⟩], PZ.out.rw_, .inr ⟨by rw [HX.out]; exact HE0.out, rfl, by rw [HX.out]; simp [Tr.ho]⟩⟩, PZ.out.sm⟩, PZ.out.but.mono (fun i _ e => .inr (.inr e))⟩
      · refine step_buildOne rfl 23 43 69 (.tmp 15) rfl (sc hd o (.slice A6 o.p.length c6)).toArray _ _ rfl hsz IStp USs (by decide) (by decide) ?_
        generalize hW11 : World.alloc X0 _ = V11
        have hb11 : Below X0.heap.size X0 V11 := by rw [← hW11]; exact (Below.refl _ _).alloc (Nat.le_refl _) _
        have N_V11 : V11.heap[X0.heap.size]? = some (.cells (sc hd o (.slice A6 o.p.length c6)).toArray 43 (0, 0)) := by rw [← hW11]; exact heap_new _ _
        clear hW11
        have P_V11 := P_X0.keep hb11
        try dsimp only
        refine hK (Act.put _ (some 16) _) _ ?_
        try simp only [Act.put, List.setIfInBounds_toArray, List.set_cons_zero, List.set_cons_succ]
        clear hK K
        refine wpAny_ready (rs := [4]) (by kernel_rfl) (by simp) ?_
        refine AllReady.cons rfl (fun K hK => ?_) AllReady.nil
        · refine step_load rfl 23 _ rfl _ rfl (.slice AL ts.length cL) (ld_ls P_V11.sm.c4) ?_
          refine hK (Act.put _ (some 14) _) _ ?_
          try simp only [Act.put, List.setIfInBounds_toArray, List.set_cons_zero, List.set_cons_succ]
          clear hK K
          refine wpAny_ready (rs := [7]) (by kernel_rfl) (by simp) ?_
          refine AllReady.cons rfl (fun K hK => ?_) AllReady.nil
          · refine step_append_lies _ (by rfl) (.tmp 14) (.tmp 16) 23 (by rfl) (k + 1) 43 i0 _ 69 120 USs HI.out.1 HI.out.2.1 HI.out.2.2.1 HI.out.2.2.2 zStp (by decide) _ _ _ (by rfl) P_V11.rw_.row _ 1 1 (sc hd o (.slice A6 o.p.length c6)) (by rfl) HSL.out (World.news_of_block N_V11) HON.out (by decide) (by simp only [maxLen]; omega) (by omega) P_V11.sm.lt _ rfl ?_
            intro gx13 cap13 V13 own13 gro13 _ _
            have P_V13 := SP.app (t := ⟨hd, o, .slice A6 o.p.length c6⟩) P_V11 own13 gro13 KD.out HO.out.1 HO.out.2
            have N_V13 := True.intro
            try dsimp only
            refine hK (Act.put _ (some 17) _) _ ?_
            try simp only [Act.put, List.setIfInBounds_toArray, List.set_cons_zero, List.set_cons_succ]
            clear hK K
            refine wpAny_take (i := 8) (oi := ⟨some 18, _, _, _, _, _⟩) (v := .pointer (some ⟨k, 0, none⟩)) rfl (by kernel_rfl) (by kernel_rfl) (by kernel_rfl) (fun _ _ _ h => h) (Or.inl ⟨by rfl, by intro wx; go_simp⟩) ?_
            try simp only [Act.put, List.setIfInBounds_toArray, List.set_cons_zero, List.set_cons_succ]
            refine wpAny_take (i := 9) (oi := ⟨some 19, _, _, _, _, _⟩) (v := .pointer (some ⟨k, 4, none⟩)) rfl (by kernel_rfl) (by kernel_rfl) (by kernel_rfl) (fun _ _ _ h => h) (Or.inl ⟨by rfl, by intro wx; go_simp⟩) ?_
            try simp only [Act.put, List.setIfInBounds_toArray, List.set_cons_zero, List.set_cons_succ]
            refine wpAny_ready (rs := [10]) (by kernel_rfl) (by simp) ?_
            refine AllReady.cons rfl (fun K hK => ?_) AllReady.nil
            · refine step_store rfl 23 _ _ rfl _ rfl _ rfl _ (st_ls P_V13.sm.c4 (P_V13.sm.fz 4)) ?_
              have Y14 := P_V13.put hbk
              generalize World.setCell V13 _ _ = V14 at *
              have P_V14 := Y14
              have N_V14 := True.intro
              try dsimp only
              refine hK (Act.put _ none _) _ ?_
              try simp only [Act.put, List.setIfInBounds_toArray, List.set_cons_zero, List.set_cons_succ]
              clear hK K
              refine wpAny_done (by kernel_rfl) ?_ _
              have c3 := P_V14.sm.c3
              have f3 := P_V14.sm.fz 3
              have PZ := Lib.hid (P_V14.put3 hbk (n - 1))
              have q1 : IntKind.i64.wrap (n - 1) = n - 1 := IntWalk.i64_in _ (by omega)
              clear P_V14
              go_wp2_with fail
              go_end0
              exact ⟨rfl, PZ.out.cu, ⟨_, rfl, ⟨ts ++ [⟨hd, o, .slice A6 o.p.length c6⟩], PZ.out.rw_, .inr ⟨by rw [HX.out]; exact HE0.out, rfl, by rw [HX.out]; simp [Tr.ho]⟩⟩, PZ.out.sm⟩, PZ.out.but.mono (fun i _ e => .inr (.inr e))⟩
  · have t1 : (c2.e == 0) = false := by simpa using he
    have HE0 := Lib.hid he
    clear he
    go_wp2_with fail
    refine HE.out.mono ?_
    rintro r w8 ⟨rfl, hw8⟩
    rw [hw8]
    clear hw8 w8 HE
    go_wp2_with fail
    go_end0
    exact ⟨rfl, P7.out.cu, ⟨_, rfl, ⟨ts, P7.out.rw_, .inl ⟨by rw [HX.out]; exact HE0.out, rfl, rfl⟩⟩, P7.out.sm⟩, P7.out.but.mono (fun i _ e => .inr (.inr e))⟩
end Go.Proofs.Ytcaocnlchfbeaaa.Stm
