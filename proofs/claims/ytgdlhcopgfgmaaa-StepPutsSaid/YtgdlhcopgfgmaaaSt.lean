/- The walks of an opening's bytes. -/
import Derived.Test.YtgdlhcopgfgmaaaStMath
import Derived.Test.YtgdlhcopgfgmaaaBufK
namespace Go.Proofs.Ytgdlhcopgfgmaaa.St
open Go.RowKit Go.Proofs.Ytgdlhcopgfgmaaa.Mk Go.Proofs.Ytgdlhcopgfgmaaa.Op Go.Proofs.Ytgdlhcopgfgmaaa.Buf
open Go.Proofs.Ytgdlhcopgfgmaaa.Shape (depthI)
set_option maxHeartbeats 1000000 in
set_option maxRecDepth 100000 in
theorem bhash_nil (v : Value) (A : Option Addr) (c : Nat) (w : World) :
    Calls Try.prog 68 #[v, .slice A 0 c] w fun e w' => e = .returned (.tuple #[]) ∧ w' = w := by
  go_enter Try.func68, Try.ntmps68
  go_wp2_with fail
  go_loop [8] (fun s8 => s8 = .int .i64 0) (fun _ => 0)
  case atStart => rfl
  case round =>
    obtain rfl := hrel
    go_wp2_with fail
    go_end0
    exact ⟨rfl, rfl⟩
/-- the path is put, nil or not -/
theorem bpath_calls (B : Nat) (bb : Nat) (r : Option Nat) (l : List UInt8) (sv : Value) (p : HL) (w W0 : World) (h : QB B (some bb) r l w) (hB : W0.heap.size ≤ B) (hs0 : SL hc 32 W0 sv p) (hw : Below W0.heap.size W0 w) (hlen : l.length + p.length * 32 ≤ 140737488355328) :
    Calls Try.prog 68 #[qv (some bb), sv] w fun e w' => e = .returned (.tuple #[]) ∧ ∃ r', QB B (some bb) r' (l ++ p.flatten) w' ∧ QW (some bb) r r' w w' := by
  by_cases hp : p = []
  · subst hp
    obtain ⟨_, _, A, c, rfl, _⟩ := hs0
    refine (bhash_nil (qv (some bb)) A c w).mono ?_
    rintro e w' ⟨rfl, rfl⟩
    exact ⟨rfl, r, by simpa using h, QW.refl _ _ _⟩
  · refine bhash_calls B (some bb) r l sv p w h (hs0.below hw) hlen ?_
    intro A n c hsv b o hA
    obtain ⟨hl32', _, A', c', he, _, _, hex⟩ := hs0
    rw [hsv] at he
    cases he
    obtain ⟨b2, o2, hA2, hx⟩ := hex (List.length_pos_iff.2 hp)
    rw [hA] at hA2
    cases hA2
    have hb : b < W0.heap.size := by
      obtain ⟨x, p', rfl⟩ : ∃ x p', p = x :: p' := by cases p with | nil => exact absurd rfl hp | cons x p' => exact ⟨x, p', rfl⟩
      have hx0 := hx 0 x rfl
      have hl32 : (hc x).length = 32 := hl32' x (by simp)
      obtain ⟨u, hu⟩ : ∃ u, (hc x)[0]? = some u := ⟨_, List.getElem?_eq_getElem (by omega)⟩
      exact block_lt_of_cell (hx0 0 u hu)
    have hb2 := (QB.base h).2
    refine ⟨fun e => ?_, fun e => ?_⟩
    · have := (hb2 b (.inl e.symm)).1; omega
    · have := (hb2 b (.inr e.symm)).1; omega
/-- three cells of an opening as the walk reads them -/
theorem three {w : World} {g : Nat} {i c : Int} {sv : Value} (h : w.heap[g]? = some (.cells (oc i c sv) 64 (0, 0))) :
    w.cell? ⟨g, 0, none⟩ = some (.int .i64 i) ∧ w.cell? ⟨g, 1, none⟩ = some (.int .i64 c) ∧ w.cell? ⟨g, 2, none⟩ = some sv :=
  ⟨by rw [cell_of_row _ _ _ _ _ _ h]; rfl, by rw [cell_of_row _ _ _ _ _ _ h]; rfl, by rw [cell_of_row _ _ _ _ _ _ h]; rfl⟩
theorem ret_se {a b : ByteArray} {x y : Int} (h : a = b) (k : x = y) : Ending.returned (.tuple #[.string a, .int .i64 x]) = .returned (.tuple #[.string b, .int .i64 y]) := by rw [h, k]
set_option maxHeartbeats 4000000 in
set_option maxRecDepth 100000 in
theorem opening_calls (o : Opn) (v : Value) (w : World) (h : OV w v o) (ok : OOk o) :
    Calls Try.prog 35 #[v] w fun e w' => e = .returned (.tuple #[.string (ba (openB o).1), .int .i64 (openB o).2]) ∧ Below w.heap.size w w' := by
  obtain ⟨sv, rfl, hs⟩ := h
  have hB : Below w.heap.size w (w.alloc (.cells (oc o.i o.c sv) 64)) := (Below.refl _ _).alloc (Nat.le_refl _) _
  have Z := heap_new w (.cells (oc o.i o.c sv) 64)
  have hs0 := hs.below hB
  have HN := Lib.hid (fun wx (hx : Below (w.alloc (.cells (oc o.i o.c sv) 64)).heap.size (w.alloc (.cells (oc o.i o.c sv) 64)) wx) => none_calls o (.agg (oc o.i o.c sv)) wx ⟨sv, rfl, hs0.below hx⟩)
  have HM := Lib.hid (fun wx (hx : Below (w.alloc (.cells (oc o.i o.c sv) 64)).heap.size (w.alloc (.cells (oc o.i o.c sv) 64)) wx) => may_calls o (.agg (oc o.i o.c sv)) wx ⟨sv, rfl, hs0.below hx⟩ ok.1 ok.2.1)
  have HZ := Lib.hid (fun wx (hx : Below (w.alloc (.cells (oc o.i o.c sv) 64)).heap.size (w.alloc (.cells (oc o.i o.c sv) 64)) wx) => three ((hx.block _ (by simp)).trans Z))
  have Hs0 := Lib.hid hs0
  have HB := Lib.hid hB
  have Hok := Lib.hid ok
  have hop : openB o = if noneO o = true then (Num.putL 0, 0) else if mayI o ≠ 0 then ([], mayI o) else (Num.putL o.c.toNat ++ Num.putL o.i.toNat ++ o.p.flatten, 0) := rfl
  have Hop := Lib.hid hop
  have hm0 := may0 (o := o)
  have Hm0 := Lib.hid hm0
  generalize noneO o = q at *
  generalize mayI o = e0 at *
  clear hs hs0 Z hB ok hop hm0
  unfold oc at *
  go_enter Try.func35, Try.ntmps35
  go_wp2_with fail
  generalize w.alloc (.cells #[.int .i64 o.i, .int .i64 o.c, sv] 64) = W0 at *
  refine (new_calls W0).mono ?_
  rintro e w1 ⟨rfl, hq1, hb1⟩
  generalize hvb : qv (some W0.heap.size) = vb at *
  have Hvb := Lib.hid hvb
  obtain ⟨c0, c1, c2⟩ := HZ.out w1 hb1
  have Q1 := Lib.hid hq1
  have B1 := Lib.hid hb1
  clear hvb hq1 hb1
  go_wp2_with fail
  refine (HN.out _ B1.out).mono ?_
  rintro e w2 ⟨rfl, hb2⟩
  have Q2 := Lib.hid (Q1.out.keepB hb2)
  have B2 := Lib.hid (below_up B1.out hb2)
  clear hb2 c0 c1 c2 Q1 B1
  cases q with
  | true =>
    have Hr := Lib.hid (show openB o = (Num.putL 0, 0) from Hop.out.trans (if_pos rfl))
    have DN := Lib.hid (bnum_calls W0.heap.size _ none [] 0 w2 Q2.out (by decide) (by simp))
    rw [Hvb.out] at DN
    go_wp2_with fail
    refine DN.out.mono ?_
    rintro e w3 ⟨rfl, r3, hq3, hw3⟩
    have B3 := Lib.hid (B2.out.trans (hw3.below Q2.out))
    have DB := Lib.hid (bytes_calls W0.heap.size _ r3 _ w3 hq3)
    rw [Hvb.out, if_neg (by simp)] at DB
    have Q3 := Lib.hid hq3
    clear hq3 hw3
    go_wp2_with fail
    refine DB.out.mono ?_
    rintro e w4 ⟨rfl, hq4, hw4⟩
    have B4 := Lib.hid (B3.out.trans (hw4.below Q3.out))
    clear hq4 hw4
    go_wp2_with fail
    go_ret2
    exact ⟨ret_se (by rw [Hr.out]; try rfl) (by rw [Hr.out]), HB.out.trans (B4.out.mono HB.out.size)⟩
  | false =>
    obtain ⟨c0, c1, c2⟩ := HZ.out w2 B2.out
    go_wp2_with fail
    refine (HM.out _ B2.out).mono ?_
    rintro e w3 ⟨rfl, hb3⟩
    have Q3 := Lib.hid (Q2.out.keepB hb3)
    have B3 := Lib.hid (below_up B2.out hb3)
    clear hb3 c0 c1 c2
    by_cases he : e0 = 0
    · subst he
      obtain ⟨m1, m2, m3, m4, m5⟩ := Hm0.out rfl
      have hd := depth_le o.c o.i m2
      have Hr := Lib.hid (show openB o = (Num.putL o.c.toNat ++ Num.putL o.i.toNat ++ o.p.flatten, 0) from Hop.out.trans ((if_neg (by simp)).trans (if_neg (by simp))))
      obtain ⟨cn, hcn⟩ := Int.eq_ofNat_of_zero_le (show 0 ≤ o.c by omega)
      obtain ⟨ip, hip⟩ := Int.eq_ofNat_of_zero_le m3
      have lc := Num.putL_len10 cn (by omega)
      have li := Num.putL_len10 ip (by omega)
      have DN := Lib.hid (bnum_calls W0.heap.size _ none [] cn w3 Q3.out (by omega) (by simp))
      rw [Hvb.out, ← hcn] at DN
      have hpl : o.p.length ≤ 63 := by omega
      have w64c : IntKind.u64.wrap o.c = o.c := by rw [IntKind.wrap_u64]; omega
      have w64i : IntKind.u64.wrap o.i = o.i := by rw [IntKind.wrap_u64]; omega
      have Hcn := Lib.hid hcn
      have Hip := Lib.hid hip
      obtain ⟨c0, c1, c2⟩ := HZ.out w3 B3.out
      clear hcn hip m5 hd
      go_wp2_with fail
      refine DN.out.mono ?_
      rintro e w4 ⟨rfl, r4, hq4, hw4⟩
      have B4 := Lib.hid (B3.out.trans (hw4.below Q3.out))
      have DI := Lib.hid (bnum_calls W0.heap.size _ r4 _ ip w4 hq4 (by have := Hip.out; omega) (by simp; omega))
      rw [Hvb.out, ← Hip.out] at DI
      have Q4 := Lib.hid hq4
      clear hq4 hw4 c0 c1 c2
      obtain ⟨c0, c1, c2⟩ := HZ.out w4 B4.out
      go_wp2_with fail
      refine DI.out.mono ?_
      rintro e w5 ⟨rfl, r5, hq5, hw5⟩
      have B5 := Lib.hid (B4.out.trans (hw5.below Q4.out))
      have DP := Lib.hid (bpath_calls W0.heap.size W0.heap.size r5 _ sv o.p w5 W0 hq5 (Nat.le_refl _) Hs0.out B5.out (by simp; omega))
      rw [Hvb.out] at DP
      have Q5 := Lib.hid hq5
      clear hq5 hw5 c0 c1 c2
      obtain ⟨c0, c1, c2⟩ := HZ.out w5 B5.out
      go_wp2_with fail
      refine DP.out.mono ?_
      rintro e w6 ⟨rfl, r6, hq6, hw6⟩
      have B6 := Lib.hid (B5.out.trans (hw6.below Q5.out))
      have DB := Lib.hid (bytes_calls W0.heap.size _ r6 _ w6 hq6)
      rw [Hvb.out, if_neg (by simp)] at DB
      have Q6 := Lib.hid hq6
      clear hq6 hw6 c0 c1 c2
      go_wp2_with fail
      refine DB.out.mono ?_
      rintro e w7 ⟨rfl, hq7, hw7⟩
      have B7 := Lib.hid (B6.out.trans (hw7.below Q6.out))
      clear hq7 hw7
      go_wp2_with fail
      go_ret2
      exact ⟨ret_se (by rw [Hr.out, Hcn.out, Hip.out]; simp) (by rw [Hr.out]), HB.out.trans (B7.out.mono HB.out.size)⟩
    · have Hr := Lib.hid (show openB o = ([], e0) from Hop.out.trans ((if_neg (by simp)).trans (if_pos he)))
      have t1 : (e0 != 0) = true := by simpa using he
      clear he
      go_wp2_with fail
      go_ret2
      exact ⟨ret_se (by rw [Hr.out]; try rfl) (by rw [Hr.out]), HB.out.trans (B3.out.mono HB.out.size)⟩
end Go.Proofs.Ytgdlhcopgfgmaaa.St
