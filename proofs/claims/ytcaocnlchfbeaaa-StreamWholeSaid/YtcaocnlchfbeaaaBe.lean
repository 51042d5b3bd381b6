import Derived.Test.YtcaocnlchfbeaaaBa
import Derived.Test.YtcaocnlchfbeaaaBb
import Derived.Test.YtcaocnlchfbeaaaProg
import Derived.RangeFuncNested
import Derived.RangeFuncBound
import Derived.RangeFuncCalls
import Derived.RangeFuncLeaves
import Derived.Shelf.Abstract
import Derived.Shelf.RegionOpen
import Derived.WalkKit
import Derived.OwnWalkIn
import Derived.TacticsInMore
import Derived.LoopNIn
import Derived.LoopIn
import Derived.Maps.AppendAt
/- The walks of chapter 11's Left, and of the document's. -/
namespace Go.Proofs.Ytcaocnlchfbeaaa.Shape
open Go.RowKit Go.Proofs.Ytcaocnlchfbeaaa.Mk
theorem ret_int {k : IntKind} {a b : Int} (h : a = b) : Ending.returned (.int k a) = .returned (.int k b) := by rw [h]
def leftI (n : Int) : Int := (leftN n.toNat : Nat)
set_option maxHeartbeats 1000000 in
theorem left_same (n : Int) (w : World) (hn : n ≤ 9223372036854775807) (hn0 : -9223372036854775808 ≤ n) :
    Calls Try.prog 117 #[.int .i64 n] w fun e w' => e = .returned (.int .i64 (leftI n)) ∧ w' = w := by
  by_cases h : n < 2
  · have hl : Hid (leftI n = 0) := Lib.hid (by unfold leftI; rw [left_small _ (by omega)]; rfl)
    go_enter Try.func117, Try.ntmps117
    go_wp2_with fail
    go_ret
    exact ⟨ret_int hl.out.symm, rfl⟩
  · go_enter Try.func117, Try.ntmps117
    go_wp2_with fail
    go_loop [3] (fun s3 => ∃ (p : Int), Hid (∃ j : Nat, p = ((2 ^ j : Nat) : Int)) ∧ 1 ≤ p ∧ p < n ∧ s3 = .int .i64 p) (fun i => (n - intOf i).toNat)
    case atStart => exact ⟨1, Lib.hid ⟨0, rfl⟩, by omega, by omega, rfl⟩
    case round =>
      obtain ⟨p, hp, hp1, hp2, rfl⟩ := hrel
      by_cases hc : p ≤ (n - 1) / 2
      · go_wp2_with fail
        go_round
        case rel => exact ⟨p * 2, Lib.hid (by obtain ⟨j, hj⟩ := hp.out; exact ⟨j + 1, by rw [hj, Nat.pow_succ]; omega⟩), by omega, by omega, by go_num⟩
        case measure => simp [intOf] <;> omega
      · have hl : Hid (leftI n = p) := Lib.hid (by
          obtain ⟨j, hj⟩ := hp.out
          unfold leftI
          rw [left_uniq n.toNat j (by omega) (by omega) (by omega), hj])
        go_wp2_with fail
        go_ret
        exact ⟨ret_int hl.out.symm, rfl⟩
theorem left_calls (n : Int) (w : World) (hn : n ≤ 9223372036854775807) (hn0 : -9223372036854775808 ≤ n) :
    Calls Try.prog 117 #[.int .i64 n] w fun e w' => e = .returned (.int .i64 (leftI n)) ∧ Below w.heap.size w w' := by
  refine (left_same n w hn hn0).mono ?_
  rintro e w1 ⟨rfl, rfl⟩
  exact ⟨rfl, Below.refl _ _⟩
set_option maxHeartbeats 1000000 in
theorem rleft_same (n : Int) (w : World) (hn : n ≤ 9223372036854775807) (hn0 : -9223372036854775808 ≤ n) :
    Calls Try.prog 110 #[.int .i64 n] w fun e w' => e = .returned (.int .i64 (leftI n)) ∧ w' = w := by
  go_enter Try.func110, Try.ntmps110
  go_wp2_with fail
  go_loop [3, 4] (fun s3 s4 => ∃ (p k : Int), s3 = .int .i64 p ∧ s4 = .int .i64 k ∧ Hid ((p = 0 ∧ k = 1) ∨ (∃ j : Nat, p = ((2 ^ j : Nat) : Int) ∧ p < n ∧ k = wrap64 (p * 2))) ∧ p ≤ 9223372036854775807 ∧ 0 ≤ p ∧ k ≤ 9223372036854775807 ∧ -9223372036854775808 ≤ k) (fun p _ => (n - intOf p).toNat)
  case atStart => exact ⟨0, 1, rfl, rfl, Lib.hid (.inl ⟨rfl, rfl⟩), by omega, by omega, by omega, by omega⟩
  case round =>
    obtain ⟨p, k, rfl, rfl, hp, hpb, hp0, hkb, hkb0⟩ := hrel
    by_cases hc1 : k < n
    · by_cases hc2 : 0 < k
      · have hnew : Hid (∃ j : Nat, k = ((2 ^ j : Nat) : Int)) := Lib.hid (by
          rcases hp.out with ⟨_, h⟩ | ⟨j, h1, h2, h3⟩
          · exact ⟨0, by rw [h]; rfl⟩
          · refine ⟨j + 1, ?_⟩
            unfold wrap64 at h3
            rw [Nat.pow_succ]
            omega)
        have hlt : p < k := by
          rcases hp.out with ⟨h0, h⟩ | ⟨j, h1, h2, h3⟩
          · omega
          · have : (1 : Int) ≤ p := by
              have := Nat.one_le_two_pow (n := j)
              omega
            unfold wrap64 at h3
            omega
        have hw1 : wrap64 (k * 2) ≤ 9223372036854775807 := by unfold wrap64; omega
        have hw2 : -9223372036854775808 ≤ wrap64 (k * 2) := by unfold wrap64; omega
        go_wp2_with fail
        go_round
        case rel => exact ⟨k, wrap64 (k * 2), rfl, rfl, Lib.hid (.inr (by obtain ⟨j, hj⟩ := hnew.out; exact ⟨j, hj, hc1, rfl⟩)), by omega, by omega, hw1, hw2⟩
        case measure => simp [intOf] <;> omega
      · have hl : Hid (leftI n = p) := Lib.hid (by
          rcases hp.out with ⟨h0, h⟩ | ⟨j, h1, h2, h3⟩
          · omega
          · have h4 := Nat.one_le_two_pow (n := j)
            unfold wrap64 at h3
            unfold leftI
            rw [left_uniq n.toNat j (by omega) (by omega) (by omega), h1])
        go_wp2_with fail
        go_ret
        exact ⟨ret_int hl.out.symm, rfl⟩
    · have hl : Hid (leftI n = p) := Lib.hid (by
        rcases hp.out with ⟨h0, h⟩ | ⟨j, h1, h2, h3⟩
        · unfold leftI; rw [left_small _ (by omega), h0]; rfl
        · have h4 := Nat.one_le_two_pow (n := j)
          unfold wrap64 at h3
          unfold leftI
          rw [left_uniq n.toNat j (by omega) (by omega) (by omega), h1])
      go_wp2_with fail
      go_ret
      exact ⟨ret_int hl.out.symm, rfl⟩
theorem rleft_calls (n : Int) (w : World) (hn : n ≤ 9223372036854775807) (hn0 : -9223372036854775808 ≤ n) :
    Calls Try.prog 110 #[.int .i64 n] w fun e w' => e = .returned (.int .i64 (leftI n)) ∧ Below w.heap.size w w' := by
  refine (rleft_same n w hn hn0).mono ?_
  rintro e w1 ⟨rfl, rfl⟩
  exact ⟨rfl, Below.refl _ _⟩
end Go.Proofs.Ytcaocnlchfbeaaa.Shape

/- The walk of chapter 11's down, at whatever a round makes of what comes. -/
namespace Go.Proofs.Ytcaocnlchfbeaaa.Shape
open Go.RowKit Go.Shelf Go.Proofs.Ytcaocnlchfbeaaa.Mk
attribute [local go_sem] Oper.semAt_some
theorem room_of_none {F : Fence} (hd : F.depth = none) (k : Nat) : F.room k := fun d h => by rw [hd] at h; cases h
set_option maxRecDepth 100000 in
set_option maxHeartbeats 2000000 in
theorem down_in (l n₀ : Nat) (n0 i0 : Int) (L : List Bool) (J Jx : List Bool → World → Prop) (hL : Hid (downL n0.toNat i0.toNat = L))
    (hY : ∀ pre x W, J pre W → pre.length < L.length → YieldAt Fence.wide 0 Try.prog l #[.bool x] W fun e W' =>
      (e = .returned (.bool true) ∧ J (pre ++ [x]) W' ∧ Below n₀ W W') ∨ (e = .returned (.bool false) ∧ Jx (pre ++ [x]) W'))
    (hn : n0 ≤ 9223372036854775807) (hi0 : 0 ≤ i0) (hi : i0 < n0) (W : World) (h0 : J [] W) :
    CallsIn Fence.wide 0 Try.prog 113 #[.int .i64 n0, .int .i64 i0, .func (.yield l) #[] #[]] W fun e W' => (∃ v, e = .returned v) ∧
      (J L W' ∨ (∃ pre, pre <+: L ∧ Jx pre W')) := by
  refine callsIn_of_wp Try.func113 rfl trivial ?_ rfl
  simp only [Try.ntmps113, List.size_toArray, List.length_cons, List.length_nil, Nat.reduceAdd, Nat.reduceSub, Array.replicate_succ, Array.replicate_zero, List.push_toArray, List.append_toArray, List.nil_append, List.cons_append]
  gi_wp2
  gi_loopw [0, 1] (fun s0 s1 wr => ∃ (n i : Int) (pre : List Bool), s0 = .int .i64 n ∧ s1 = .int .i64 i ∧ Hid (L = pre ++ downL n.toNat i.toNat) ∧ n ≤ 9223372036854775807 ∧ 0 ≤ i ∧ i < n ∧ J pre wr)
    (fun s0 _ _ => (intOf s0).toNat)
  case atStart => exact ⟨n0, i0, [], rfl, rfl, Lib.hid (by rw [hL.out]; rfl), hn, hi0, hi, h0⟩
  case round =>
    obtain ⟨n, i, pre, rfl, rfl, hpre, hnb, hib, hin, hJs⟩ := hrel
    by_cases hc : 1 < n
    · have hsp := left_spec n.toNat (by omega)
      have hp1 : 1 ≤ leftI n := by unfold leftI; omega
      have hp2 : leftI n < n := by unfold leftI; omega
      have hpn : (leftI n).toNat = leftN n.toNat := by unfold leftI; omega
      clear hsp
      by_cases hr : leftI n ≤ i
      · have hd : Hid (L = pre ++ true :: downL (n - leftI n).toNat (i - leftI n).toNat) := Lib.hid (by
          rw [hpre.out, downL_right n.toNat i.toNat (by omega) (by omega), ← hpn]
          congr 4 <;> omega)
        have hlen : pre.length < L.length := by rw [hd.out]; simp
        obtain ⟨fn, tmps, assign, body, hy, hR⟩ := hY pre true wr hJs hlen
        clear hlen
        have HL := Lib.hid (fun w => left_same n w hnb (by omega))
        clear hpn
        generalize leftI n = p at *
        have hdec : decide (p ≤ i) = true := by simpa using hr
        gi_wp2_with (first | (refine ⟨trivial, rfl, (callsIn_wide.2 (HL.out _)).mono ?_⟩; clear HL; rintro e w1 ⟨rfl, rfl⟩) | (refine ⟨rfl, hR.mono ?_⟩; clear hR; rintro e W2 (⟨rfl, hJ2, hb2⟩ | ⟨rfl, hx2⟩)))
        · exact ⟨⟨n - p, i - p, pre ++ [true], rfl, rfl, Lib.hid (by rw [hd.out, List.append_assoc]; rfl), by omega, by omega, by omega, hJ2⟩, by simp [intOf] <;> omega⟩
        · refine bodyPost_ret (results_none rfl _ _ _) rfl ?_
          exact ⟨⟨_, rfl⟩, .inr ⟨pre ++ [true], ⟨downL (n - p).toNat (i - p).toNat, by rw [hd.out, List.append_assoc]; rfl⟩, hx2⟩⟩
      · have hd : Hid (L = pre ++ false :: downL (leftI n).toNat i.toNat) := Lib.hid (by
          rw [hpre.out, downL_left n.toNat i.toNat (by omega) (by omega), ← hpn])
        have hlen : pre.length < L.length := by rw [hd.out]; simp
        obtain ⟨fn, tmps, assign, body, hy, hR⟩ := hY pre false wr hJs hlen
        clear hlen
        have HL := Lib.hid (fun w => left_same n w hnb (by omega))
        clear hpn
        generalize leftI n = p at *
        have hdec : decide (p ≤ i) = false := by simpa using hr
        gi_wp2_with (first | (refine ⟨trivial, rfl, (callsIn_wide.2 (HL.out _)).mono ?_⟩; clear HL; rintro e w1 ⟨rfl, rfl⟩) | (refine ⟨rfl, hR.mono ?_⟩; clear hR; rintro e W2 (⟨rfl, hJ2, hb2⟩ | ⟨rfl, hx2⟩)))
        · exact ⟨⟨p, i, pre ++ [false], rfl, rfl, Lib.hid (by rw [hd.out, List.append_assoc]; rfl), by omega, by omega, by omega, hJ2⟩, by simp [intOf] <;> omega⟩
        · refine bodyPost_ret (results_none rfl _ _ _) rfl ?_
          exact ⟨⟨_, rfl⟩, .inr ⟨pre ++ [false], ⟨downL (p).toNat (i).toNat, by rw [hd.out, List.append_assoc]; rfl⟩, hx2⟩⟩
    · gi_wp2
      go_end0
      refine ⟨⟨_, rfl⟩, .inl ?_⟩
      have he : L = pre := by rw [hpre.out, downL_one n.toNat i.toNat (by omega), List.append_nil]
      rw [he]
      exact hJs
end Go.Proofs.Ytcaocnlchfbeaaa.Shape

/- The walk of chapter 11's Sides. -/
namespace Go.Proofs.Ytcaocnlchfbeaaa.Shape
open Go.RowKit Go.Shelf Go.Proofs.Ytcaocnlchfbeaaa.Mk
attribute [local go_sem] Oper.semAt_some
def encB (b : Bool) : List Value := [.bool b]
theorem encB_len (l : List Bool) : ∀ x ∈ l, (encB x).length = 1 := fun _ _ => rfl
theorem encB_one (l : List Bool) : ∀ u ∈ l.flatMap encB, u.oneCell' = true := by
  intro u hu
  obtain ⟨b, _, hb⟩ := List.mem_flatMap.1 hu
  obtain rfl : u = .bool b := by simpa [encB] using hb
  rfl
theorem infoB : (Try.prog.info? 4).map (fun i => (i.zero, i.size, i.bytes)) = some (some (.bool false), 1, 1) := by kernel_rfl
theorem US : Try.prog.underlying 129 = some (.slice 4) := by kernel_rfl
theorem replaced {W w1 : World} {n₀ B : Nat} {t e : TypeId} {size : Nat} {v v' : Value} {m : Nat} {ys : List Value} {cs : Array Value} {t1 : TypeId}
    (hv : Boxed W B t v) (hte : t ≠ e) (hn₀ : n₀ ≤ W.heap.size) (hB : n₀ ≤ B)
    (hown' : w1.ownsRow n₀ e size v' m ys) (hgrow : (W.alloc (.cells cs t1)).grownBy w1 (some W.heap.size)) :
    Boxed w1 B t v ∧ Boxed (w1.setCell ⟨B, 0, none⟩ v') B t v' ∧ (w1.setCell ⟨B, 0, none⟩ v').ownsRow n₀ e size v' m ys ∧ KeepsOthers W (w1.setCell ⟨B, 0, none⟩ v') ∧ Below n₀ W (w1.setCell ⟨B, 0, none⟩ v') := by
  have hv1 : Boxed w1 B t v := (hv.alloc _).kept hgrow (by have := hv.lt; simp; omega)
  refine ⟨hv1, hv1.set v', hown'.kept (grownBy_setCell' w1 B v') (.inr (hv1.not_row hte hown').symm), ?_, ?_⟩
  · refine ((KeepsOthers.alloc W _).trans (KeepsOthers.of_grownBy hgrow fun j o ej hj => ?_)).trans (KeepsOthers.setCell _ _ _)
    obtain rfl : W.heap.size = j := by simpa using ej
    rw [World.alloc_heap_new] at hj
    cases hj; rfl
  · refine (((Below.refl n₀ W).alloc hn₀ _).grown hgrow (by simp; omega) fun j ej => ?_).setCell (p := ⟨B, 0, none⟩) hB v'
    obtain rfl : W.heap.size = j := by simpa using ej
    exact hn₀
/-- the loop's function value hands on, from the top down, to which side the way goes. -/
theorem sides1_stops (B2 B3 n₀ : Nat) (n i : Int) (L : List Bool) (hL : Hid (downL n.toNat i.toNat = L)) (hn : n ≤ 9223372036854775807) (hi0 : 0 ≤ i) (hi : i < n) (w : World)
    (h2 : B2 < w.heap.size) (h3 : B3 < w.heap.size) (c2 : w.cell? ⟨B2, 0, none⟩ = some (.int .i64 n)) (c3 : w.cell? ⟨B3, 0, none⟩ = some (.int .i64 i)) :
    SeqStopsK Fence.wide 0 Try.prog 112 #[.pointer (some ⟨B2, 0, none⟩), .pointer (some ⟨B3, 0, none⟩)] (fun x : Bool => #[Value.bool x]) (Below n₀) (fun ys => ys = L) (fun pre => pre <+: L) L.length w := by
  intro l J Jx W hW _ _ hY h0
  have d2 := (hW.cell (p := ⟨B2, 0, none⟩) h2).trans c2
  have d3 := (hW.cell (p := ⟨B3, 0, none⟩) h3).trans c3
  have hp := down_in l n₀ n i L J Jx hL hY hn hi0 hi W h0
  refine callsIn_of_wp Try.func112 rfl trivial ?_ rfl
  simp only [Try.ntmps112, List.size_toArray, List.length_cons, List.length_nil, Nat.reduceAdd, Nat.reduceSub, Array.replicate_succ, Array.replicate_zero, List.push_toArray, List.append_toArray, List.nil_append, List.cons_append]
  gi_wp2_with (refine ⟨trivial, rfl, hp.mono ?_⟩; clear hp; rintro e w1 ⟨⟨v, rfl⟩, hv⟩)
  go_end0
  refine ⟨⟨_, rfl⟩, ?_⟩
  rcases hv with h | h
  · exact .inl ⟨L, rfl, h⟩
  · exact .inr h
def sidesI (n i : Int) : List Bool := if 0 ≤ i ∧ i < n then (downL n.toNat i.toNat).reverse else []
set_option maxRecDepth 100000 in
set_option maxHeartbeats 4000000 in
theorem sides_some (n i : Int) (hn : n ≤ 9223372036854775807) (hi0 : 0 ≤ i) (hi : i < n) (L : List Bool) (hL : Hid (downL n.toNat i.toNat = L)) (hlen : L.length ≤ 63) (w : World) :
    Calls Try.prog 97 #[.int .i64 n, .int .i64 i] w fun e w' => ∃ v, e = .returned v ∧ SL encB 1 w' v L.reverse ∧ Below w.heap.size w w' := by
  obtain ⟨i0, hin, hz0, hz1, hz2⟩ := info_parts infoB
  refine (callsIn_wide (n := 1)).1 ?_
  refine callsIn_of_wp_marks Try.func97 rfl trivial ?_ rfl
  simp only [Try.ntmps97, List.size_toArray, List.length_cons, List.length_nil, Nat.reduceAdd, Nat.reduceSub, Array.replicate_succ, Array.replicate_zero, List.push_toArray, List.append_toArray, List.nil_append, List.cons_append]
  gi_wp2
  have b2 : Boxed (((w.alloc (.cells #[.int .i64 n] 3)).alloc (.cells #[.int .i64 i] 3)).alloc (.cells #[.slice none 0 0] 129)) w.heap.size 3 (.int .i64 n) := ((Boxed.new w _ _).alloc _).alloc _
  have b3 : Boxed (((w.alloc (.cells #[.int .i64 n] 3)).alloc (.cells #[.int .i64 i] 3)).alloc (.cells #[.slice none 0 0] 129)) (w.heap.size + 1) 3 (.int .i64 i) := by
    have := Boxed.new (w.alloc (.cells #[.int .i64 n] 3)) 3 (.int .i64 i)
    rw [World.size_alloc] at this
    exact this.alloc _
  have b5 : Boxed (((w.alloc (.cells #[.int .i64 n] 3)).alloc (.cells #[.int .i64 i] 3)).alloc (.cells #[.slice none 0 0] 129)) (w.heap.size + 1 + 1) 129 (.slice none 0 0) := by
    have := Boxed.new ((w.alloc (.cells #[.int .i64 n] 3)).alloc (.cells #[.int .i64 i] 3)) 129 (.slice none 0 0)
    rw [World.size_alloc, World.size_alloc] at this
    exact this
  have hB0 : Below w.heap.size w (((w.alloc (.cells #[.int .i64 n] 3)).alloc (.cells #[.int .i64 i] 3)).alloc (.cells #[.slice none 0 0] 129)) := (((Below.refl _ w).alloc (Nat.le_refl _) _).alloc (by simp) _).alloc (by simp; omega) _
  obtain ⟨W0, hW0⟩ : ∃ W0, (((w.alloc (.cells #[.int .i64 n] 3)).alloc (.cells #[.int .i64 i] 3)).alloc (.cells #[.slice none 0 0] 129)) = W0 := ⟨_, rfl⟩
  have hsz : W0.heap.size = w.heap.size + 3 := by rw [← hW0]; simp
  rw [hW0] at b2 b3 b5 hB0 ⊢
  clear hW0
  refine wpIn_rangeFunc_ownG rfl (by omega) (gf := 112) (lb := #[.pointer (some ⟨w.heap.size, 0, none⟩), .pointer (some ⟨w.heap.size + 1, 0, none⟩)]) rfl trivial (enters_of Try.func112 (by kernel_rfl) rfl)
    (sides1_stops w.heap.size (w.heap.size + 1) w.heap.size n i L hL hn hi0 hi W0 (by omega) (by omega) b2.cell b3.cell) belowK_t (belowK_b (by omega)) (Below.refl _ _) (fun _ => rfl)
    (fun pre W => (∃ v, Boxed W (w.heap.size + 1 + 1) 129 v ∧ W.ownsRow w.heap.size 4 1 v pre.length (pre.reverse.flatMap encB) ∧ (v = .slice none 0 0 ↔ pre = [])) ∧ Below w.heap.size w W)
    (fun _ _ _ => False)
    (OwnFrom.and (Own.from (holdsRow_own w.heap.size (w.heap.size + 1 + 1) 129 4 1 (fun pre => pre.length) (fun pre => pre.reverse.flatMap encB) (fun pre v => v = .slice none 0 0 ↔ pre = [])) _) (ownFrom_below (Nat.le_refl _) (by omega)))
    (fun _ _ _ _ _ hs _ _ => hs)
    ⟨⟨_, b5, World.ownsRow_nil _ _ _ _, by simp⟩, hB0⟩
    (fun x => { tmps := #[.int .i64 n, .int .i64 i, .pointer (some ⟨w.heap.size, 0, none⟩), .pointer (some ⟨w.heap.size + 1, 0, none⟩), .slice none 0 0, .pointer (some ⟨w.heap.size + 1 + 1, 0, none⟩), .bool x, .int .i64 i, .bool (decide (i < 0)), .bool (decide (i < 0)), .int .i64 i, .int .i64 n, .bool (decide (n ≤ i)), .bool (decide (i < 0) || decide (n ≤ i)), undef, .func (.func 112) #[] #[.pointer (some ⟨w.heap.size, 0, none⟩), .pointer (some ⟨w.heap.size + 1, 0, none⟩)], .bool x, undef, undef, undef, undef, undef], defers := [] }) ?assign ?body ?done ?stop
  case assign =>
    intro l x W K hK
    gi_wp2
    exact hK
  case body =>
    rintro l pre x W ⟨⟨v, hv, hrow, hnil⟩, hB⟩ hlt
    have hc := hv.cell
    have hc2 : (W.alloc (.cells #[.bool x] 4)).cell? ⟨w.heap.size + 1 + 1, 0, none⟩ = some v := (hv.alloc _).cell
    have hone : ∀ u ∈ pre.reverse.flatMap encB, u.oneCell' = true := encB_one _
    have hnl : (pre.reverse.flatMap encB).length = pre.length * 1 := hrow.1
    have hfst : (W.alloc (.cells #[.bool x] 4)).ownsRow w.heap.size 4 1 (.slice (some ⟨W.heap.size, 0, none⟩) 1 1) 1 [.bool x] :=
      ⟨rfl, .inr ⟨W.heap.size, 1, #[.bool x], rfl, hB.size, World.alloc_heap_new _ _, by omega, by simp [maxLen], rfl, rfl⟩⟩
    have hbs := hB.size
    have hfz : (W.alloc (.cells #[.bool x] 4)).frozen? ⟨w.heap.size + 1 + 1, 0, none⟩ = false := (hv.alloc _).frozen
    rcases hrow.2 with ⟨rfl, h0⟩ | ⟨g, cap, cur, rfl, hg, hh, hcn, hcm, hcs, hct⟩
    · obtain ⟨hv1, hv2, hr2, hk2, hb2⟩ := replaced hv (by decide) hB.size (by omega) hfst (World.grownBy.refl _ _)
      have hp0 : pre = [] := List.eq_nil_of_length_eq_zero h0
      gi_wp2
      subst hp0
      exact ⟨hk2.from _, hb2, ⟨_, hv2, hr2, by simp⟩, hB.trans hb2⟩
    · have k1 : 1 + pre.length ≤ maxLen := by unfold maxLen; omega
      have k2 : (1 + pre.length) * 1 ≤ 140737488355328 := by omega
      have k3 : w.heap.size ≤ (W.alloc (.cells #[.bool x] 4)).heap.size := by rw [World.size_alloc]; omega
      have hcells : ∀ j u, (pre.reverse.flatMap encB)[j]? = some u → (W.alloc (.cells #[.bool x] 4)).cell? ((⟨g, 0, none⟩ : Addr).add j) = some u := by
        intro j u hj
        refine (World.grownBy_alloc W _ none).cell (a := ((⟨g, 0, none⟩ : Addr).add j)) ?_ (by simp)
        rw [show (⟨g, 0, none⟩ : Addr).add j = ⟨g, j, none⟩ from by simp [Addr.add]; omega, cell_of_row W g _ cur 4 (0, 0) hh]
        try rw [← Array.getElem?_toList]
        rw [← hct] at hj
        have hjl := (List.getElem?_eq_some_iff.1 hj).1
        rw [List.length_take] at hjl
        rw [List.getElem?_take, if_pos (by omega)] at hj
        exact hj
      gi_wp2_with (gi_at_builtin; refine wpListIn_append_own _ rfl _ _ 129 rfl w.heap.size 4 i0 (.bool false) 1 1 US hin hz0 hz1 hz2 rfl (by decide) _ _ _ rfl hfst ⟨g, 0, none⟩ pre.length cap (pre.reverse.flatMap encB) rfl hnl hcells hone k1 k2 k3 ?_; intro v' w1 hown' hgrow _; rw [Nat.add_comm 1] at hown'; obtain ⟨g', cap', rfl⟩ := ownsRow_succ hown'; obtain ⟨hv1, hv2, hr2, hk2, hb2⟩ := replaced hv (by decide) hB.size (by omega) hown' hgrow; have hc1 := hv1.cell; have hf1 := hv1.frozen)
      exact ⟨hk2.from _, hb2, ⟨_, hv2, by simpa [encB] using hr2, by simp⟩, hB.trans hb2⟩
  case done =>
    rintro D ys W hD rfl ⟨⟨v, hv, hrow, hnil⟩, hB⟩ hK
    have hc := hv.cell
    gi_wp2
    refine ⟨by simp, .inl ⟨_, _, rfl, run_takeDeferred hK, ?_⟩⟩
    refine ⟨_, results_tmp rfl _ _ _, v, rfl, ?_, hB.trans (belowK_b (w := w) (Nat.le_refl _) W D _ _ (by omega) hK rfl rfl)⟩
    refine SL.of_owns (base := w.heap.size) (e := 4) ?_ (encB_len _) (by rw [List.length_reverse]; omega)
    rw [List.length_reverse]
    exact ownsRow_putObj hrow _ hK rfl
  case stop =>
    rintro D c pre W _ _ h _
    exact h.elim
end Go.Proofs.Ytcaocnlchfbeaaa.Shape

/- The walks of the document's Sides and Depth, and of chapter 11's Sides and Depth at any leaf. -/
namespace Go.Proofs.Ytcaocnlchfbeaaa.Shape
open Go.RowKit Go.Proofs.Ytcaocnlchfbeaaa.Mk
theorem sidesI_out (n i : Int) (h : ¬ (0 ≤ i ∧ i < n)) : sidesI n i = [] := by unfold sidesI; rw [if_neg h]
theorem sidesI_in (n i : Int) (h0 : 0 ≤ i) (h : i < n) : sidesI n i = (downL n.toNat i.toNat).reverse := by unfold sidesI; rw [if_pos ⟨h0, h⟩]
theorem sidesI_one (n i : Int) (hn : n ≤ 1) : sidesI n i = [] := by
  by_cases h : 0 ≤ i ∧ i < n
  · rw [sidesI_in n i h.1 h.2, downL_one _ _ (by omega)]; rfl
  · exact sidesI_out n i h
theorem left_le (n : Int) (h : 2 ≤ n) : 1 ≤ leftI n ∧ leftI n < n ∧ (leftI n).toNat = leftN n.toNat := by
  have := left_spec n.toNat (by omega)
  unfold leftI
  omega
theorem sidesI_left (n i : Int) (h : 2 ≤ n) (h0 : 0 ≤ i) (hi : i < leftI n) : sidesI n i = sidesI (leftI n) i ++ [false] := by
  have hl := left_le n h
  rw [sidesI_in n i h0 (by omega), sidesI_in _ i h0 hi, downL_left n.toNat i.toNat (by omega) (by omega), List.reverse_cons, hl.2.2]
theorem sidesI_right (n i : Int) (h : 2 ≤ n) (hi : leftI n ≤ i) (hin : i < n) : sidesI n i = sidesI (n - leftI n) (i - leftI n) ++ [true] := by
  have hl := left_le n h
  rw [sidesI_in n i (by omega) (by omega), sidesI_in _ _ (by omega) (by omega), downL_right n.toNat i.toNat (by omega) (by omega), List.reverse_cons]
  congr 4 <;> omega
theorem sidesI_len (n i : Int) (h : n ≤ 9223372036854775807) : (sidesI n i).length ≤ 63 := by
  by_cases h2 : 0 ≤ i ∧ i < n
  · rw [sidesI_in n i h2.1 h2.2, List.length_reverse]
    exact down_len64 _ _ (by omega)
  · rw [sidesI_out n i h2]; simp
set_option maxHeartbeats 2000000 in
theorem sides_calls (n i : Int) (w : World) (hn : n ≤ 9223372036854775807) :
    Calls Try.prog 97 #[.int .i64 n, .int .i64 i] w fun e w' => ∃ v, e = .returned v ∧ SL encB 1 w' v (sidesI n i) ∧ Below w.heap.size w w' := by
  by_cases h : 0 ≤ i ∧ i < n
  · rw [sidesI_in n i h.1 h.2]
    exact sides_some n i hn h.1 h.2 _ (Lib.hid rfl) (down_len64 _ _ (by omega)) w
  · rw [sidesI_out n i h]
    go_enter Try.func97, Try.ntmps97
    by_cases h0 : i < 0
    · go_wp2_with fail
      go_ret
      exact ⟨_, rfl, SL.nil _ _ _, (((Below.refl _ w).alloc (Nat.le_refl _) _).alloc (by simp) _).alloc (by simp; omega) _⟩
    · go_wp2_with fail
      go_ret
      exact ⟨_, rfl, SL.nil _ _ _, (((Below.refl _ w).alloc (Nat.le_refl _) _).alloc (by simp) _).alloc (by simp; omega) _⟩
set_option maxRecDepth 100000 in
set_option maxHeartbeats 4000000 in
theorem rsides_own : ∀ (k : Nat) (n i : Int), n.toNat ≤ k → n ≤ 9223372036854775807 → -9223372036854775808 ≤ n → i ≤ 9223372036854775807 → -9223372036854775808 ≤ i → ∀ w : World,
    Calls Try.prog 91 #[.int .i64 n, .int .i64 i] w fun e w' => ∃ v, e = .returned v ∧ w'.ownsRow w.heap.size 4 1 v (sidesI n i).length ((sidesI n i).flatMap encB) ∧ Below w.heap.size w w' := by
  obtain ⟨i0, hin, hz0, hz1, hz2⟩ := info_parts infoB
  intro k
  induction k with
  | zero =>
    intro n i hk hn hn0 hi hi0 w
    rw [sidesI_one n i (by omega)]
    by_cases h0 : i < 0
    · go_enter Try.func91, Try.ntmps91
      go_wp2_with fail
      go_ret
      exact ⟨_, rfl, World.ownsRow_nil _ _ _ _, Below.refl _ _⟩
    · have h1 : n ≤ i := by omega
      go_enter Try.func91, Try.ntmps91
      go_wp2_with fail
      go_ret
      exact ⟨_, rfl, World.ownsRow_nil _ _ _ _, Below.refl _ _⟩
  | succ k ih =>
    intro n i hk hn hn0 hi hi0 w
    by_cases h0 : i < 0
    · rw [sidesI_out n i (by omega)]
      go_enter Try.func91, Try.ntmps91
      go_wp2_with fail
      go_ret
      exact ⟨_, rfl, World.ownsRow_nil _ _ _ _, Below.refl _ _⟩
    by_cases h1 : n ≤ i
    · rw [sidesI_out n i (by omega)]
      go_enter Try.func91, Try.ntmps91
      go_wp2_with fail
      go_ret
      exact ⟨_, rfl, World.ownsRow_nil _ _ _ _, Below.refl _ _⟩
    by_cases h2 : n = 1
    · rw [sidesI_one n i (by omega)]
      subst h2
      go_enter Try.func91, Try.ntmps91
      go_wp2_with fail
      go_ret
      exact ⟨_, rfl, World.ownsRow_nil _ _ _ _, Below.refl _ _⟩
    · have hl := left_le n (by omega)
      have HLf := Lib.hid (fun w => rleft_same n w hn hn0)
      have hnz : ((n : Int) == 1) = false := by simpa using h2
      obtain ⟨hl1, hl2, hq⟩ := hl
      by_cases hr : i < leftI n
      · have HI := Lib.hid (ih (leftI n) i (by omega) (by omega) (by omega) (by omega) (by omega))
        have hs := sidesI_len n i hn
        rw [sidesI_left n i (by omega) (by omega) hr] at hs ⊢
        clear hq ih
        rw [List.length_append] at hs ⊢
        rw [List.flatMap_append]
        generalize leftI n = p at *
        generalize hL : sidesI p i = L at *
        clear hL
        go_enter Try.func91, Try.ntmps91
        go_wp2_with fail
        refine (HLf.out _).mono ?_
        rintro e w1 ⟨rfl, rfl⟩
        go_wp2_with fail
        refine (HI.out _).mono ?_
        rintro e w2 ⟨v, rfl, ho, hb⟩
        have Ho := Lib.hid ho
        clear ho
        have hbs := hb.size
        go_wp2_with (at_builtin; refine wpList_append_own _ rfl _ _ 129 rfl w1.heap.size 4 i0 _ 1 1 US hin hz0 hz1 hz2 rfl (by decide) _ _ _ rfl (Ho.out.alloc _) ⟨w2.heap.size, 0, none⟩ 1 1 [.bool false] rfl ?c1 ?c2 ?c3 ?c4 ?c5 ?c6 ?_)
        case c1 => rfl
        case c2 => exact cell_one_new _ _ _
        case c3 => simp [Value.oneCell']
        case c4 => unfold maxLen; simp at hs; omega
        case c5 => simp at hs; omega
        case c6 => rw [World.size_alloc]; omega
        intro v' w3 ho' hg _
        go_wp2_with fail
        go_ret
        exact ⟨v', rfl, by simpa [encB] using ho', (hb.alloc (by omega) _).grown hg (by rw [World.size_alloc]; omega) (fun k hk => (Ho.out.lt k hk).1)⟩
      · have HI := Lib.hid (ih (n - leftI n) (i - leftI n) (by omega) (by omega) (by omega) (by omega) (by omega))
        have hs := sidesI_len n i hn
        rw [sidesI_right n i (by omega) (by omega) (by omega)] at hs ⊢
        clear hq ih
        rw [List.length_append] at hs ⊢
        rw [List.flatMap_append]
        generalize leftI n = p at *
        generalize hL : sidesI (n - p) (i - p) = L at *
        clear hL
        go_enter Try.func91, Try.ntmps91
        go_wp2_with fail
        refine (HLf.out _).mono ?_
        rintro e w1 ⟨rfl, rfl⟩
        go_wp2_with fail
        refine (HI.out _).mono ?_
        rintro e w2 ⟨v, rfl, ho, hb⟩
        have Ho := Lib.hid ho
        clear ho
        have hbs := hb.size
        go_wp2_with (at_builtin; refine wpList_append_own _ rfl _ _ 129 rfl w1.heap.size 4 i0 _ 1 1 US hin hz0 hz1 hz2 rfl (by decide) _ _ _ rfl (Ho.out.alloc _) ⟨w2.heap.size, 0, none⟩ 1 1 [.bool true] rfl ?c1 ?c2 ?c3 ?c4 ?c5 ?c6 ?_)
        case c1 => rfl
        case c2 => exact cell_one_new _ _ _
        case c3 => simp [Value.oneCell']
        case c4 => unfold maxLen; simp at hs; omega
        case c5 => simp at hs; omega
        case c6 => rw [World.size_alloc]; omega
        intro v' w3 ho' hg _
        go_wp2_with fail
        go_ret
        exact ⟨v', rfl, by simpa [encB] using ho', (hb.alloc (by omega) _).grown hg (by rw [World.size_alloc]; omega) (fun k hk => (Ho.out.lt k hk).1)⟩
theorem rsides_calls (n i : Int) (w : World) (hn : n ≤ 9223372036854775807) (hn0 : -9223372036854775808 ≤ n) (hi : i ≤ 9223372036854775807) (hi0 : -9223372036854775808 ≤ i) :
    Calls Try.prog 91 #[.int .i64 n, .int .i64 i] w fun e w' => ∃ v, e = .returned v ∧ SL encB 1 w' v (sidesI n i) ∧ Below w.heap.size w w' := by
  refine (rsides_own n.toNat n i (Nat.le_refl _) hn hn0 hi hi0 w).mono ?_
  rintro e w1 ⟨v, rfl, ho, hb⟩
  exact ⟨v, rfl, SL.of_owns ho (encB_len _) (by have := sidesI_len n i hn; omega), hb⟩
def depthI (n i : Int) : Int := if 0 ≤ i ∧ i < n then ((sidesI n i).length : Int) else -1
set_option maxHeartbeats 2000000 in
theorem depth_calls (n i : Int) (w : World) (hn : n ≤ 9223372036854775807) (_hn0 : -9223372036854775808 ≤ n) (hi : i ≤ 9223372036854775807) (hi0 : -9223372036854775808 ≤ i) :
    Calls Try.prog 67 #[.int .i64 n, .int .i64 i] w fun e w' => e = .returned (.int .i64 (depthI n i)) ∧ Below w.heap.size w w' := by
  have hd : Hid (depthI n i = if 0 ≤ i ∧ i < n then ((sidesI n i).length : Int) else -1) := Lib.hid rfl
  generalize depthI n i = d at *
  by_cases h0 : i < 0
  · have hd2 : Hid (-1 = d) := Lib.hid (by rw [hd.out, if_neg (by omega)])
    go_enter Try.func67, Try.ntmps67
    go_wp2_with fail
    go_ret
    exact ⟨ret_int hd2.out, Below.refl _ _⟩
  by_cases h1 : n ≤ i
  · have hd2 : Hid (-1 = d) := Lib.hid (by rw [hd.out, if_neg (by omega)])
    go_enter Try.func67, Try.ntmps67
    go_wp2_with fail
    go_ret
    exact ⟨ret_int hd2.out, Below.refl _ _⟩
  · have hd2 : Hid (((sidesI n i).length : Int) = d) := Lib.hid (by rw [hd.out, if_pos (by omega)])
    have HS := Lib.hid (fun w => sides_calls n i w hn)
    clear hd
    generalize sidesI n i = L at *
    go_enter Try.func67, Try.ntmps67
    go_wp2_with fail
    refine (HS.out _).mono ?_
    rintro e w1 ⟨v, rfl, hs, hb⟩
    obtain ⟨_, _, A, c, rfl, _⟩ := hs
    go_wp2_with fail
    go_ret
    exact ⟨ret_int hd2.out, hb⟩
set_option maxHeartbeats 2000000 in
theorem rdepth_calls (n i : Int) (w : World) (hn : n ≤ 9223372036854775807) (hn0 : -9223372036854775808 ≤ n) (hi : i ≤ 9223372036854775807) (hi0 : -9223372036854775808 ≤ i) :
    Calls Try.prog 62 #[.int .i64 n, .int .i64 i] w fun e w' => e = .returned (.int .i64 (depthI n i)) ∧ Below w.heap.size w w' := by
  have hd : Hid (depthI n i = if 0 ≤ i ∧ i < n then ((sidesI n i).length : Int) else -1) := Lib.hid rfl
  generalize depthI n i = d at *
  by_cases h0 : i < 0
  · have hd2 : Hid (-1 = d) := Lib.hid (by rw [hd.out, if_neg (by omega)])
    go_enter Try.func62, Try.ntmps62
    go_wp2_with fail
    go_ret
    exact ⟨ret_int hd2.out, Below.refl _ _⟩
  by_cases h1 : n ≤ i
  · have hd2 : Hid (-1 = d) := Lib.hid (by rw [hd.out, if_neg (by omega)])
    go_enter Try.func62, Try.ntmps62
    go_wp2_with fail
    go_ret
    exact ⟨ret_int hd2.out, Below.refl _ _⟩
  · have hd2 : Hid (((sidesI n i).length : Int) = d) := Lib.hid (by rw [hd.out, if_pos (by omega)])
    have HS := Lib.hid (fun w => rsides_calls n i w hn hn0 hi hi0)
    clear hd
    generalize sidesI n i = L at *
    go_enter Try.func62, Try.ntmps62
    go_wp2_with fail
    refine (HS.out _).mono ?_
    rintro e w1 ⟨v, rfl, hs, hb⟩
    obtain ⟨_, _, A, c, rfl, _⟩ := hs
    go_wp2_with fail
    go_ret
    exact ⟨ret_int hd2.out, hb⟩
end Go.Proofs.Ytcaocnlchfbeaaa.Shape
