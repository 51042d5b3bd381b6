/- The walk of chapter 11's Sides. -/
import Derived.Maps.AppendAt
import Derived.Test.YtgdlhcopgfgmaaaShapeIn
namespace Go.Proofs.Ytgdlhcopgfgmaaa.Shape
open Go.RowKit Go.Shelf Go.Proofs.Ytgdlhcopgfgmaaa.Mk
attribute [local go_sem] Oper.semAt_some
def encB (b : Bool) : List Value := [.bool b]
theorem encB_len (l : List Bool) : ∀ x ∈ l, (encB x).length = 1 := fun _ _ => rfl
theorem encB_one (l : List Bool) : ∀ u ∈ l.flatMap encB, u.oneCell' = true := by
  intro u hu
  obtain ⟨b, _, hb⟩ := List.mem_flatMap.1 hu
  obtain rfl : u = .bool b := by simpa [encB] using hb
  rfl
theorem infoB : (Try.prog.info? 4).map (fun i => (i.zero, i.size, i.bytes)) = some (some (.bool false), 1, 1) := by kernel_rfl
theorem US : Try.prog.underlying 127 = some (.slice 4) := by kernel_rfl
theorem replaced {W w1 : World} {n₀ B : Nat} {t e : TypeId} {size : Nat} {v v' : Value} {m : Nat} {ys : List Value} {cs : Array Value} {t1 : TypeId}
    (hv : Boxed W B t v) (hte : t ≠ e) (hn₀ : n₀ ≤ W.heap.size) (hB : n₀ ≤ B)
    (hown' : w1.ownsRow n₀ e size v' m ys) (hgrow : (W.alloc (.cells cs t1)).grownBy w1 (some W.heap.size)) :
    Boxed w1 B t v ∧ Boxed (w1.setCell ⟨B, 0, none⟩ v') B t v' ∧ (w1.setCell ⟨B, 0, none⟩ v').ownsRow n₀ e size v' m ys ∧ KeepsOthers W (w1.setCell ⟨B, 0, none⟩ v') ∧ Below n₀ W (w1.setCell ⟨B, 0, none⟩ v') := by
  have hv1 : Boxed w1 B t v := (hv.alloc _).kept hgrow (by have := hv.lt; simp; omega)
  refine ⟨hv1, hv1.set v', hown'.kept (grownBy_setCell' w1 B v') (.inr (hv1.not_row hte hown').symm), ?_, ?_⟩
  · refine ((KeepsOthers.alloc W _).trans (KeepsOthers.of_grownBy hgrow fun j o ej hj => ?_)).trans (KeepsOthers.setCell _ _ _)
    obtain rfl : W.heap.size = j := by simpa using ej
    rw [World.alloc_heap_new] at hj
    cases hj; rfl
  · refine (((Below.refl n₀ W).alloc hn₀ _).grown hgrow (by simp; omega) fun j ej => ?_).setCell (p := ⟨B, 0, none⟩) hB v'
    obtain rfl : W.heap.size = j := by simpa using ej
    exact hn₀
/-- the loop's function value hands on, from the top down, to which side the way goes. -/
theorem sides1_stops (B2 B3 n₀ : Nat) (n i : Int) (L : List Bool) (hL : Hid (downL n.toNat i.toNat = L)) (hn : n ≤ 9223372036854775807) (hi0 : 0 ≤ i) (hi : i < n) (w : World)
    (h2 : B2 < w.heap.size) (h3 : B3 < w.heap.size) (c2 : w.cell? ⟨B2, 0, none⟩ = some (.int .i64 n)) (c3 : w.cell? ⟨B3, 0, none⟩ = some (.int .i64 i)) :
    SeqStopsK Fence.wide 0 Try.prog 91 #[.pointer (some ⟨B2, 0, none⟩), .pointer (some ⟨B3, 0, none⟩)] (fun x : Bool => #[Value.bool x]) (Below n₀) (fun ys => ys = L) (fun pre => pre <+: L) L.length w := by
  intro l J Jx W hW _ _ hY h0
  have d2 := (hW.cell (p := ⟨B2, 0, none⟩) h2).trans c2
  have d3 := (hW.cell (p := ⟨B3, 0, none⟩) h3).trans c3
  have hp := down_in l n₀ n i L J Jx hL hY hn hi0 hi W h0
  refine callsIn_of_wp Try.func91 rfl trivial ?_ rfl
  simp only [Try.ntmps91, List.size_toArray, List.length_cons, List.length_nil, Nat.reduceAdd, Nat.reduceSub, Array.replicate_succ, Array.replicate_zero, List.push_toArray, List.append_toArray, List.nil_append, List.cons_append]
  gi_wp2_with (refine ⟨trivial, rfl, hp.mono ?_⟩; clear hp; rintro e w1 ⟨⟨v, rfl⟩, hv⟩)
  go_end0
  refine ⟨⟨_, rfl⟩, ?_⟩
  rcases hv with h | h
  · exact .inl ⟨L, rfl, h⟩
  · exact .inr h
def sidesI (n i : Int) : List Bool := if 0 ≤ i ∧ i < n then (downL n.toNat i.toNat).reverse else []
set_option maxRecDepth 100000 in
set_option maxHeartbeats 4000000 in
theorem sides_some (n i : Int) (hn : n ≤ 9223372036854775807) (hi0 : 0 ≤ i) (hi : i < n) (L : List Bool) (hL : Hid (downL n.toNat i.toNat = L)) (hlen : L.length ≤ 63) (w : World) :
    Calls Try.prog 88 #[.int .i64 n, .int .i64 i] w fun e w' => ∃ v, e = .returned v ∧ SL encB 1 w' v L.reverse ∧ Below w.heap.size w w' := by
  obtain ⟨i0, hin, hz0, hz1, hz2⟩ := info_parts infoB
  refine (callsIn_wide (n := 1)).1 ?_
  refine callsIn_of_wp_marks Try.func88 rfl trivial ?_ rfl
  simp only [Try.ntmps88, List.size_toArray, List.length_cons, List.length_nil, Nat.reduceAdd, Nat.reduceSub, Array.replicate_succ, Array.replicate_zero, List.push_toArray, List.append_toArray, List.nil_append, List.cons_append]
  gi_wp2
  have b2 : Boxed (((w.alloc (.cells #[.int .i64 n] 3)).alloc (.cells #[.int .i64 i] 3)).alloc (.cells #[.slice none 0 0] 127)) w.heap.size 3 (.int .i64 n) := ((Boxed.new w _ _).alloc _).alloc _
  have b3 : Boxed (((w.alloc (.cells #[.int .i64 n] 3)).alloc (.cells #[.int .i64 i] 3)).alloc (.cells #[.slice none 0 0] 127)) (w.heap.size + 1) 3 (.int .i64 i) := by
    have := Boxed.new (w.alloc (.cells #[.int .i64 n] 3)) 3 (.int .i64 i)
    rw [World.size_alloc] at this
    exact this.alloc _
  have b5 : Boxed (((w.alloc (.cells #[.int .i64 n] 3)).alloc (.cells #[.int .i64 i] 3)).alloc (.cells #[.slice none 0 0] 127)) (w.heap.size + 1 + 1) 127 (.slice none 0 0) := by
    have := Boxed.new ((w.alloc (.cells #[.int .i64 n] 3)).alloc (.cells #[.int .i64 i] 3)) 127 (.slice none 0 0)
    rw [World.size_alloc, World.size_alloc] at this
    exact this
  have hB0 : Below w.heap.size w (((w.alloc (.cells #[.int .i64 n] 3)).alloc (.cells #[.int .i64 i] 3)).alloc (.cells #[.slice none 0 0] 127)) := (((Below.refl _ w).alloc (Nat.le_refl _) _).alloc (by simp) _).alloc (by simp; omega) _
  obtain ⟨W0, hW0⟩ : ∃ W0, (((w.alloc (.cells #[.int .i64 n] 3)).alloc (.cells #[.int .i64 i] 3)).alloc (.cells #[.slice none 0 0] 127)) = W0 := ⟨_, rfl⟩
  have hsz : W0.heap.size = w.heap.size + 3 := by rw [← hW0]; simp
  rw [hW0] at b2 b3 b5 hB0 ⊢
  clear hW0
  refine wpIn_rangeFunc_ownG rfl (by omega) (gf := 91) (lb := #[.pointer (some ⟨w.heap.size, 0, none⟩), .pointer (some ⟨w.heap.size + 1, 0, none⟩)]) rfl trivial (enters_of Try.func91 (by kernel_rfl) rfl)
    (sides1_stops w.heap.size (w.heap.size + 1) w.heap.size n i L hL hn hi0 hi W0 (by omega) (by omega) b2.cell b3.cell) belowK_t (belowK_b (by omega)) (Below.refl _ _) (fun _ => rfl)
    (fun pre W => (∃ v, Boxed W (w.heap.size + 1 + 1) 127 v ∧ W.ownsRow w.heap.size 4 1 v pre.length (pre.reverse.flatMap encB) ∧ (v = .slice none 0 0 ↔ pre = [])) ∧ Below w.heap.size w W)
    (fun _ _ _ => False)
    (OwnFrom.and (Own.from (holdsRow_own w.heap.size (w.heap.size + 1 + 1) 127 4 1 (fun pre => pre.length) (fun pre => pre.reverse.flatMap encB) (fun pre v => v = .slice none 0 0 ↔ pre = [])) _) (ownFrom_below (Nat.le_refl _) (by omega)))
    (fun _ _ _ _ _ hs _ _ => hs)
    ⟨⟨_, b5, World.ownsRow_nil _ _ _ _, by simp⟩, hB0⟩
    (fun x => { tmps := #[.int .i64 n, .int .i64 i, .pointer (some ⟨w.heap.size, 0, none⟩), .pointer (some ⟨w.heap.size + 1, 0, none⟩), .slice none 0 0, .pointer (some ⟨w.heap.size + 1 + 1, 0, none⟩), .bool x, .int .i64 i, .bool (decide (i < 0)), .bool (decide (i < 0)), .int .i64 i, .int .i64 n, .bool (decide (n ≤ i)), .bool (decide (i < 0) || decide (n ≤ i)), undef, .func (.func 91) #[] #[.pointer (some ⟨w.heap.size, 0, none⟩), .pointer (some ⟨w.heap.size + 1, 0, none⟩)], .bool x, undef, undef, undef, undef, undef], defers := [] }) ?assign ?body ?done ?stop
  case assign =>
    intro l x W K hK
    gi_wp2
    exact hK
  case body =>
    rintro l pre x W ⟨⟨v, hv, hrow, hnil⟩, hB⟩ hlt
    have hc := hv.cell
    have hc2 : (W.alloc (.cells #[.bool x] 4)).cell? ⟨w.heap.size + 1 + 1, 0, none⟩ = some v := (hv.alloc _).cell
    have hone : ∀ u ∈ pre.reverse.flatMap encB, u.oneCell' = true := encB_one _
    have hnl : (pre.reverse.flatMap encB).length = pre.length * 1 := hrow.1
    have hfst : (W.alloc (.cells #[.bool x] 4)).ownsRow w.heap.size 4 1 (.slice (some ⟨W.heap.size, 0, none⟩) 1 1) 1 [.bool x] :=
      ⟨rfl, .inr ⟨W.heap.size, 1, #[.bool x], rfl, hB.size, World.alloc_heap_new _ _, by omega, by simp [maxLen], rfl, rfl⟩⟩
    have hbs := hB.size
    have hfz : (W.alloc (.cells #[.bool x] 4)).frozen? ⟨w.heap.size + 1 + 1, 0, none⟩ = false := (hv.alloc _).frozen
    rcases hrow.2 with ⟨rfl, h0⟩ | ⟨g, cap, cur, rfl, hg, hh, hcn, hcm, hcs, hct⟩
    · obtain ⟨hv1, hv2, hr2, hk2, hb2⟩ := replaced hv (by decide) hB.size (by omega) hfst (World.grownBy.refl _ _)
      have hp0 : pre = [] := List.eq_nil_of_length_eq_zero h0
      gi_wp2
      subst hp0
      exact ⟨hk2.from _, hb2, ⟨_, hv2, hr2, by simp⟩, hB.trans hb2⟩
    · have k1 : 1 + pre.length ≤ maxLen := by unfold maxLen; omega
      have k2 : (1 + pre.length) * 1 ≤ 140737488355328 := by omega
      have k3 : w.heap.size ≤ (W.alloc (.cells #[.bool x] 4)).heap.size := by rw [World.size_alloc]; omega
      have hcells : ∀ j u, (pre.reverse.flatMap encB)[j]? = some u → (W.alloc (.cells #[.bool x] 4)).cell? ((⟨g, 0, none⟩ : Addr).add j) = some u := by
        intro j u hj
        refine (World.grownBy_alloc W _ none).cell (a := ((⟨g, 0, none⟩ : Addr).add j)) ?_ (by simp)
        rw [show (⟨g, 0, none⟩ : Addr).add j = ⟨g, j, none⟩ from by simp [Addr.add]; omega, cell_of_row W g _ cur 4 (0, 0) hh]
        try rw [← Array.getElem?_toList]
        rw [← hct] at hj
        have hjl := (List.getElem?_eq_some_iff.1 hj).1
        rw [List.length_take] at hjl
        rw [List.getElem?_take, if_pos (by omega)] at hj
        exact hj
      gi_wp2_with (gi_at_builtin; refine wpListIn_append_own _ rfl _ _ 127 rfl w.heap.size 4 i0 (.bool false) 1 1 US hin hz0 hz1 hz2 rfl (by decide) _ _ _ rfl hfst ⟨g, 0, none⟩ pre.length cap (pre.reverse.flatMap encB) rfl hnl hcells hone k1 k2 k3 ?_; intro v' w1 hown' hgrow _; rw [Nat.add_comm 1] at hown'; obtain ⟨g', cap', rfl⟩ := ownsRow_succ hown'; obtain ⟨hv1, hv2, hr2, hk2, hb2⟩ := replaced hv (by decide) hB.size (by omega) hown' hgrow; have hc1 := hv1.cell; have hf1 := hv1.frozen)
      exact ⟨hk2.from _, hb2, ⟨_, hv2, by simpa [encB] using hr2, by simp⟩, hB.trans hb2⟩
  case done =>
    rintro D ys W hD rfl ⟨⟨v, hv, hrow, hnil⟩, hB⟩ hK
    have hc := hv.cell
    gi_wp2
    refine ⟨by simp, .inl ⟨_, _, rfl, run_takeDeferred hK, ?_⟩⟩
    refine ⟨_, results_tmp rfl _ _ _, v, rfl, ?_, hB.trans (belowK_b (w := w) (Nat.le_refl _) W D _ _ (by omega) hK rfl rfl)⟩
    refine SL.of_owns (base := w.heap.size) (e := 4) ?_ (encB_len _) (by rw [List.length_reverse]; omega)
    rw [List.length_reverse]
    exact ownsRow_putObj hrow _ hK rfl
  case stop =>
    rintro D c pre W _ _ h _
    exact h.elim
end Go.Proofs.Ytgdlhcopgfgmaaa.Shape
