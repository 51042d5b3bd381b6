/- The walk of chapter 38's Places. -/
import Derived.RangeFuncBox
import Derived.Test.YtfelbjiflceopaaUp
namespace Go.Proofs.Ytfelbjiflceopaa.Up
open Go.RowKit Go.Shelf Go.Proofs.Ytfelbjiflceopaa.Mk
attribute [local go_sem] Oper.semAt_some
def nI (n : Nat) : Value := .int .i64 (n : Int)
/-- a slice of places -/
abbrev NS (w : World) (v : Value) (l : List Nat) : Prop := SL (E1 nI) 1 w v l
theorem KB.appended {n0 B : Nat} {W w1 : World} {tmp : Obj} {v v' : Value} {e : TypeId} {k : Nat} {xs : List Value} (hrow : W.ownsRow n0 e 1 v k xs) (hn : n0 ≤ W.heap.size) (hg : (W.alloc tmp).grownBy w1 v.ownBlock) :
    KB n0 B W (w1.setCell ⟨B, 0, none⟩ v') := by
  refine ⟨by have := hg.size; simp [World.setCell] at *; omega, fun j hj hne => ?_⟩
  refine (Below.heap_setCell _ _ _ _ (by simpa using hne)).trans ((hg.block j (by simp; omega) ?_).trans (Below.heap_alloc _ _ _ (by omega)))
  rcases hrow.2 with ⟨rfl, _⟩ | ⟨g, cap, cur, rfl, hgb, _⟩
  · simp [Value.ownBlock]
  · simp only [Value.ownBlock, ne_eq, Option.some.injEq]
    omega
theorem own_less {W : World} {n0 b : Nat} {e : TypeId} {size : Nat} {v : Value} {k : Nat} {xs : List Value} (h : W.ownsRow n0 e size v k xs) (hb : b ≤ n0) : W.ownsRow b e size v k xs := by
  obtain ⟨h1, h2⟩ := h
  refine ⟨h1, ?_⟩
  rcases h2 with h2 | ⟨g, cap, cur, q1, q2, q3⟩
  · exact .inl h2
  · exact .inr ⟨g, cap, cur, q1, Nat.le_trans hb q2, q3⟩
theorem plc_map_snoc (L : List Nat) (x : Nat) : (L ++ [x]).map nI = L.map nI ++ [.int .i64 (x : Int)] := by simp [nI]
theorem UIs : Try.prog.underlying 22 = some (.slice 3) := by kernel_rfl
theorem IInt : (Try.prog.info? 3).map (fun i => (i.zero, i.size, i.bytes)) = some (some (.int .i64 0), 1, 8) := by kernel_rfl
set_option maxRecDepth 100000 in
set_option maxHeartbeats 4000000 in
theorem places_calls (v : Value) (zs : List Int) (level : Int) (w : World) (hz : ZS w v zs) (hln : zs.length ≤ 1099511627776) :
    Calls Try.prog 47 #[v, .int .i64 0, .int .i64 level] w fun e w' => ∃ r, e = .returned r ∧ NS w' r (plc zs level zs.length) ∧ Below w.heap.size w w' := by
  have hbd := hz.len1
  obtain ⟨A, cap, rfl, hlc, hcm, _⟩ := hz.cell1
  obtain ⟨i0, hi, hz0, hz1, hz2⟩ := info_parts IInt
  have HE := Lib.hid (fun w => each_calls A zs.length cap level w)
  refine (callsIn_wide (n := 1)).1 ?_
  refine callsIn_of_wp_marks Try.func47 rfl trivial ?_ rfl
  simp only [Try.ntmps47, List.size_toArray, List.length_cons, List.length_nil, Nat.reduceAdd, Nat.reduceSub, Array.replicate_succ, Array.replicate_zero, List.push_toArray, List.append_toArray, List.nil_append, List.cons_append]
  gi_wp2_with (refine ⟨trivial, (callsIn_wide.2 (HE.out _)).mono ?_⟩; rintro e w1 ⟨rfl, rfl⟩)
  have hB0 : Below w.heap.size w ((((w.alloc (.cells #[.slice none 0 0] 22)).alloc (.cells #[.slice A zs.length cap] 22)).alloc (.cells #[.int .i64 0] 3)).alloc (.cells #[.int .i64 level] 3)) :=
    ((((Below.refl _ w).alloc (Nat.le_refl _) _).alloc (by simp) _).alloc (by simp <;> omega) _).alloc (by simp <;> omega) _
  have b0 := (((Boxed.new w 22 (.slice none 0 0)).alloc (.cells #[.slice A zs.length cap] 22)).alloc (.cells #[.int .i64 0] 3)).alloc (.cells #[.int .i64 level] 3)
  have b1 := ((Boxed.new (w.alloc (.cells #[.slice none 0 0] 22)) 22 (.slice A zs.length cap)).alloc (.cells #[.int .i64 0] 3)).alloc (.cells #[.int .i64 level] 3)
  have b2 := (Boxed.new ((w.alloc (.cells #[.slice none 0 0] 22)).alloc (.cells #[.slice A zs.length cap] 22)) 3 (.int .i64 0)).alloc (.cells #[.int .i64 level] 3)
  have b3 := Boxed.new (((w.alloc (.cells #[.slice none 0 0] 22)).alloc (.cells #[.slice A zs.length cap] 22)).alloc (.cells #[.int .i64 0] 3)) 3 (.int .i64 level)
  simp only [World.size_alloc] at b0 b1 b2 b3
  obtain ⟨W0, hW0⟩ : ∃ W0, ((((w.alloc (.cells #[.slice none 0 0] 22)).alloc (.cells #[.slice A zs.length cap] 22)).alloc (.cells #[.int .i64 0] 3)).alloc (.cells #[.int .i64 level] 3)) = W0 := ⟨_, rfl⟩
  have hsz : W0.heap.size = w.heap.size + 4 := by rw [← hW0]; simp
  rw [hW0] at b0 b1 b2 b3 hB0 ⊢
  clear hW0 HE
  have hcl := cnt_le zs level
  refine wpIn_rangeFunc_ownG rfl (by omega) (gf := 55) (lb := #[.pointer (some ⟨w.heap.size + 1 + 1, 0, none⟩), .pointer (some ⟨w.heap.size + 1, 0, none⟩), .pointer (some ⟨w.heap.size + 1 + 1 + 1, 0, none⟩)]) rfl trivial (enters_of Try.func55 (by kernel_rfl) rfl)
    (each1_stops (w.heap.size + 1 + 1) (w.heap.size + 1) (w.heap.size + 1 + 1 + 1) w.heap.size W0.heap.size zs level A cap (plc zs level zs.length) (Lib.hid rfl) W0 (fun W hK => SL.same hz (fun k hk => (hK.2 k (by omega) (by omega)).trans (hB0.block k hk))) (Nat.le_refl _)
      (by omega) (by omega) (by omega) (by omega) (by omega) (by omega) b2.cell b1.cell b3.cell)
    KB.trans (KB.put (Nat.le_refl _)) (Below.refl _ _) (fun _ => rfl)
    (fun (pre : List Nat) W => (∃ v, Boxed W w.heap.size 22 v ∧ W.ownsRow W0.heap.size 3 1 v pre.length (pre.map nI) ∧ True) ∧ (Below w.heap.size w W ∧ W0.heap.size ≤ W.heap.size))
    (fun _ _ _ => False)
    (OwnFrom.and (Own.from (holdsRow_own W0.heap.size w.heap.size 22 3 1 (fun (pre : List Nat) => pre.length) (fun pre => pre.map nI) (fun _ _ => True)) _) (OwnFrom.and (ownFrom_below (Nat.le_refl _) (by omega)) (fun _ _ _ _ hs hg _ => Nat.le_trans hs hg.size)))
    (fun _ _ _ _ _ hs _ _ => hs)
    ⟨⟨_, b0, World.ownsRow_nil _ _ _ _, trivial⟩, hB0, Nat.le_refl _⟩
    (fun x => { tmps := #[.slice A zs.length cap, .int .i64 0, .int .i64 level, undef, undef, undef, .slice none 0 0, .pointer (some ⟨w.heap.size, 0, none⟩), .int .i64 x, .slice A zs.length cap, .int .i64 0, .int .i64 level, .func (.func 55) #[] #[.pointer (some ⟨w.heap.size + 1 + 1, 0, none⟩), .pointer (some ⟨w.heap.size + 1, 0, none⟩), .pointer (some ⟨w.heap.size + 1 + 1 + 1, 0, none⟩)], .int .i64 x, undef, undef, undef, undef, undef], defers := [] }) ?assign ?body ?done ?stop
  case assign =>
    intro l x W K hK
    gi_wp2
    simpa using hK
  case body =>
    rintro l pre x W ⟨⟨v, hv, hrow, _⟩, hB, hn0⟩ hlt
    have hpl : pre.length < zs.length := Nat.lt_of_lt_of_le hlt hcl
    have hc := hv.cell
    clear hlt
    gi_wp2_with (gi_at_builtin; refine wpListIn_append_own _ rfl _ _ 22 rfl W0.heap.size 3 i0 (.int .i64 0) 1 8 UIs hi hz0 hz1 hz2 rfl (by decide) _ _ _ rfl (hrow.alloc _) ⟨W.heap.size, 0, none⟩ 1 1 [.int .i64 x] rfl rfl (cell_one_new _ _ _) (by simp [Value.oneCell']) (by show pre.length + 1 ≤ 2 ^ 63 - 1; omega) (by show (pre.length + 1) * 8 ≤ _; omega) (Nat.le_trans hn0 (by simp)) ?_; intro v' w1 hown' hgrow _; obtain ⟨g', cap', rfl⟩ := ownsRow_succ hown'; have hkb := KB.appended (B := w.heap.size) (v' := .slice (some ⟨g', 0, none⟩) (pre.length + 1) cap') hrow hn0 hgrow; obtain ⟨hv1, hv2, hr1, hk2, hb2⟩ := hv.appended (by decide) (own_less hrow (by omega)) hB.size (Nat.le_refl _) (own_less (b := w.heap.size) hown' (by omega)) hgrow; have hr2 := hown'.kept (grownBy_setCell' w1 w.heap.size (.slice (some ⟨g', 0, none⟩) (pre.length + 1) cap')) (.inr (hv1.not_row (by decide) hown').symm); have hc1 := hv1.cell; have hf1 := hv1.frozen)
    exact ⟨hk2.from _, hkb, ⟨_, hv2, by rw [plc_map_snoc, List.length_append]; exact hr2, trivial⟩, hB.trans hb2, Nat.le_trans hn0 hkb.1⟩
  case done =>
    rintro D ys W hD rfl ⟨⟨v, hv, hrow, _⟩, hB, _⟩ hK
    have hc := hv.cell
    gi_wp2
    refine ⟨by simp, .inl ⟨_, _, rfl, run_takeDeferred hK, ?_⟩⟩
    exact ⟨_, results_tmp rfl _ _ _, v, rfl, SL.of_owns1 (ownsRow_putObj hrow _ hK rfl) (by show cnt zs level ≤ _; omega), hB.trans (belowK_b (w := w) (Nat.le_refl _) W D _ _ (by omega) hK rfl rfl)⟩
  case stop =>
    rintro D c pre W _ _ h _
    exact h.elim
end Go.Proofs.Ytfelbjiflceopaa.Up
