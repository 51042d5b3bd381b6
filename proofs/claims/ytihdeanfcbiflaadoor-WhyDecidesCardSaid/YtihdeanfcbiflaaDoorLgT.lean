/- The walk of a number's decimal digits. -/
import Derived.Deep.DeepCutAuto
import Derived.Deep.LoopGhost
import Derived.Test.YtihdeanfcbiflaaDoorLgTMath
import Derived.Test.YtihdeanfcbiflaaDoorLgD
import Derived.Test.YtihdeanfcbiflaaDoorLgM
import Derived.Test.YtihdeanfcbiflaaDoorEqN
import Derived.Test.YtihdeanfcbiflaaDoorWd
namespace Go.Proofs.YtihdeanfcbiflaaDoor.Lg
open Go.RowKit Go.Proofs.YtihdeanfcbiflaaDoor.Mk Go.Proofs.YtihdeanfcbiflaaDoor.Ul Go.Proofs.YtihdeanfcbiflaaDoor.Wi Go.Proofs.YtihdeanfcbiflaaDoor.Wd
open Extern.Stop (cell)
theorem Tbs : Tryd.prog.underlying 62 = some (.slice 5) := by kernel_rfl
theorem Tu8 : Tryd.prog.underlying 5 = some (.int .u8) := by kernel_rfl
theorem Tst : Tryd.prog.underlying 9 = some .string := by kernel_rfl
theorem U64' : Tryd.prog.underlying 24 = some (.int .u64) := by kernel_rfl
theorem eqL0 {Z : Nat} (hZ : Z < (2 ^ 64) ^ 5) (w : World) : (binOp .eql 26 (.agg (FC 5 (lb Z)).toArray) (.agg #[.int .u64 0, .int .u64 0, .int .u64 0, .int .u64 0, .int .u64 0])).run Tryd.prog w = .ok (.bool (decide (Z = 0))) w := by
  have e1 : FC 5 (lb Z) = ((List.range 5).map fun i => (lb Z i : Int)).map (Value.int .u64) := by simp [FC]
  have e2 : (#[.int .u64 0, .int .u64 0, .int .u64 0, .int .u64 0, .int .u64 0] : Array Value) = (((List.range 5).map fun _ => (0 : Int)).map (Value.int .u64)).toArray := rfl
  rw [e1, e2, run_eql_ints w 26 24 .u64 5 UN5 U64' Tryd.sizeOf24 _ _ (by simp) (by simp)]
  congr 2
  rw [Bool.eq_iff_iff, beq_iff_eq, decide_eq_true_eq]
  constructor
  · intro h
    refine dg_ext' (B := 2 ^ 64) (by decide) (n := 5) hZ (Nat.pow_pos (by decide)) (fun i hi => ?_)
    have := congrArg (fun l : List Int => l[i]?) h
    simp [hi] at this
    rw [dg_zero]
    exact this
  · intro h
    subst h
    have : ∀ i, lb 0 i = 0 := fun i => dg_zero i
    simp [this]
theorem eqLg (w : World) (a b : Operand) (c d : Array Value) : (eqGuard .eql 26 a b (.agg c) (.agg d)).run Tryd.prog w = .ok () w := run_eqGuard_agg _ _ _ _ _ _ _ (by kernel_rfl)
theorem cell_nat (n : Nat) (h : n < 256) : cell (UInt8.ofNat n) = .int .u8 ((n : Nat) : Int) := by
  unfold Extern.Stop.cell
  rw [UInt8.toNat_ofNat_of_lt' h]
  rfl
theorem own_eq {B : Nat} {v : Value} {l : List UInt8} {t : TypeId} {w w' : World} (h : w.ownsRow B t 1 v l.length (hc l)) (he : ∀ g, B ≤ g → g < w.heap.size → w'.heap[g]? = w.heap[g]?) : w'.ownsRow B t 1 v l.length (hc l) := by
  obtain ⟨h1, h2⟩ := h
  refine ⟨h1, ?_⟩
  rcases h2 with h2 | ⟨g, cap, cur, rfl, hg, hh, hn, hm, hs, ht⟩
  · exact Or.inl h2
  · exact Or.inr ⟨g, cap, cur, rfl, hg, (he g hg (Array.getElem?_eq_some_iff.1 hh).1).trans hh, hn, hm, hs, ht⟩
theorem own_keep {B : Nat} {v : Value} {l : List UInt8} {t : TypeId} {w w' : World} (h : w.ownsRow B t 1 v l.length (hc l)) (hb : Below w.heap.size w w') : w'.ownsRow B t 1 v l.length (hc l) := own_eq h fun g _ hg => hb.block g hg
set_option maxHeartbeats 8000000 in
set_option maxRecDepth 100000 in
theorem text_calls (X : Nat) (w : World) (hX : X < (2 ^ 64) ^ 5) :
    Calls Tryd.prog 45 #[UV 5 X] w fun e w' => e = .returned (.string (ba (decL X))) ∧ Below w.heap.size w w' := by
  obtain ⟨i0, hi, hz0, hz1, hz2⟩ := info_parts infoByte
  have HX := Lib.hid hX
  have HLn := Lib.hid (show (d10 X).length ≤ 97 from d10_len 96 X (Nat.lt_of_lt_of_le hX (by decide)))
  clear hX
  unfold UV
  go_enter Tryd.func45, Tryd.ntmps45
  go_wp2_with fail
  generalize hW : World.alloc w _ = W
  have H0 : Hid (FB w.heap.size 5 (lb X) 26 W ∧ Below w.heap.size w W) := Lib.hid (by rw [← hW]; exact ⟨nw1 _ _, bl1 _ _⟩)
  clear hW
  go_step3
  go_wp2_with fail
  go_step3
  go_wp2_with fail
  go_loopg [3] ((d10 X).length) (fun k s3 wr => ∃ (Y : Nat) (l : List UInt8), Hid (Y < (2 ^ 64) ^ 5) ∧ Hid (l ++ d10 Y = d10 X ∧ k = (d10 Y).length) ∧ Hid (FB w.heap.size 5 (lb Y) 26 wr ∧ Below w.heap.size w wr) ∧ Hid (wr.ownsRow (w.heap.size + 1) 5 1 s3 l.length (hc l)))
  case atStart => exact ⟨X, [], HX, Lib.hid ⟨rfl, rfl⟩, H0, Lib.hid (World.ownsRow_nil _ _ _ _)⟩
  case round =>
    obtain ⟨Y, l, hY, hl, hB, ho⟩ := hrel
    have HD := Lib.hid (div_calls Y 10 wr hY.out (by decide) (by decide))
    have hll : l.length ≤ 96 := by
      have h1 := congrArg List.length hl.out.1
      have h2 := d10_pos Y
      have h3 := HLn.out
      rw [List.length_append] at h1
      omega
    have hQ : Hid (Y / 10 < (2 ^ 64) ^ 5) := Lib.hid (Nat.lt_of_le_of_lt (Nat.div_le_self _ _) hY.out)
    have hm := Nat.mod_lt Y (show 0 < 10 by decide)
    obtain ⟨Q, hq⟩ : ∃ Q, Q = Y / 10 := ⟨_, rfl⟩
    obtain ⟨d, hd⟩ : ∃ d, d = Y % 10 := ⟨_, rfl⟩
    rw [← hq, ← hd] at HD
    rw [← hq] at hQ
    rw [← hd] at hm
    have hqd := Lib.hid (And.intro hq hd)
    clear hq hd
    unfold UV at HD
    have hsw := hB.out.2.size
    have hw0 := hB.out.1.lt
    go_wp2_with (refine wpList_load_row (by rfl) 26 (.tmp 1) (by rfl) _ (by rfl) _ _ _ _ hB.out.1 UN5 rfl (IN5 _) ?_)
    refine HD.out.mono ?_
    rintro e w1 ⟨rfl, hb1⟩
    have hs1 := hb1.size
    have hB1 := Lib.hid (And.intro (hB.out.1.keep hb1) (below_of hB.out.2 hb1 hsw))
    have ho1 := Lib.hid (own_keep ho.out hb1)
    clear hB ho hb1 HD
    have HG := Lib.hid (nw1 w1 (.cells (FC 5 (lb Q)).toArray 26))
    have ho := Lib.hid (ho1.out.alloc (.cells (FC 5 (lb Q)).toArray 26))
    have HB := Lib.hid (FB.alloc hB1.out.1 (.cells (FC 5 (lb Q)).toArray 26))
    go_wp2_with (first | (refine wpList_store_last rfl 26 _ _ rfl _ (FC 5 (lb Q)).toArray rfl rfl (IN5 _) (by rw [FC_size]; rfl) (FC_one _ _) ?_) | (at_builtin; refine wpList_append_own _ rfl _ _ 62 rfl (w.heap.size + 1) 5 i0 _ 1 1 Tbs hi hz0 hz1 hz2 rfl (by decide) _ _ _ rfl (ho.out.alloc _) ⟨w1.heap.size + 1, 0, none⟩ 1 1 [.int .u8 (48 + (d : Int))] rfl rfl ?c2 ?c3 ?c4 ?c5 ?c6 ?_))
    case c2 => rw [← show (w1.alloc (.cells (FC 5 (lb Q)).toArray 26)).heap.size = w1.heap.size + 1 by simp]; exact cell_one_new _ _ _
    case c3 => intro u hu; rw [List.mem_singleton.1 hu]; rfl
    case c4 => simp only [maxLen]; omega
    case c5 => omega
    case c6 => simp <;> omega
    intro v2 w2 ho2 hg2 _
    have hb2 := Lib.hid (grown_new hg2 (fun k hk => (ho.out.lt k hk).1) (hB1.out.2.alloc (by omega) _) (by omega) (by simp; omega))
    have HG2 := Lib.hid (show FB w1.heap.size 5 (lb Q) 26 w2 from (hg2.block w1.heap.size (by simp; omega) (fun e => by have := (ho1.out.lt _ e.symm).2; omega)).trans ((Below.heap_alloc _ _ _ (by simp)).trans HG.out))
    have HX2 := Lib.hid (show FB w.heap.size 5 (lb Y) 26 w2 from (hb2.out.2.2 _ (by omega) (by simp; omega)).trans HB.out)
    have Ho2 : Hid (w2.ownsRow (w.heap.size + 1) 5 1 v2 (l ++ [UInt8.ofNat (48 + d)]).length (hc (l ++ [UInt8.ofNat (48 + d)]))) := Lib.hid (by
      have e : hc (l ++ [UInt8.ofNat (48 + d)]) = hc l ++ [.int .u8 (48 + (d : Int))] := by
        rw [show (48 + (d : Int)) = ((48 + d : Nat) : Int) by omega, ← cell_nat _ (by omega)]; simp [hc]
      rw [e, List.length_append]
      exact ho2)
    clear ho2 hg2 ho ho1 HG HB hB1
    have HX3 := Lib.hid (show FB w.heap.size 5 (lb Q) 26 (w2.setRow w.heap.size (FC 5 (lb Q)).toArray) from setRow_heap _ _ _ _ _ _ HX2.out)
    have Ho3 := Lib.hid (own_eq (w' := w2.setRow w.heap.size (FC 5 (lb Q)).toArray) Ho2.out (fun g hg _ => setRow_other _ _ _ _ (by omega)))
    have Hb3 := Lib.hid (below_setRow (cs := (FC 5 (lb Q)).toArray) hb2.out.1 (Nat.le_refl w.heap.size))
    have q1 := eqL0 hQ.out
    have q2 := eqLg
    by_cases h0 : Q = 0
    · rw [decide_eq_true h0] at q1
      have HL := Lib.hid (show l ++ [UInt8.ofNat (48 + d)] = d10 X from by rw [← hl.out.1, d10_last (by rw [← hqd.out.1]; exact h0), hqd.out.2])
      clear h0
      rw [HL.out] at Ho3
      obtain ⟨g, c, rfl, hg, hlc, hcm, hrw⟩ := RW.of_owns Ho3.out (d10_pos X)
      have HRW := Lib.hid hrw
      clear Ho3 hrw Ho2
      have hn0 := d10_pos X
      have hn1 := HLn.out
      have hcb : c ≤ 9223372036854775807 := hcm
      clear hcm
      generalize hLq : d10 X = L at *
      have HLq := Lib.hid hLq
      clear hLq
      go_wp2_with (first | (refine wpList_store_row (by rfl) 26 _ _ rfl _ (FC 5 (lb Q)).toArray rfl rfl _ _ HX2.out (IN5 _) (SZ5 _ _) (FC_one 5 _) ?_) | (refine wpList_load_row (by rfl) 26 (.tmp 4) (by rfl) _ (by rfl) _ _ _ _ HG2.out UN5 rfl (IN5 _) ?_) | (refine wpList_load_row (by rfl) 26 (.tmp 1) (by rfl) _ (by rfl) _ _ _ _ HX3.out UN5 rfl (IN5 _) ?_))
      clear HX2 HG2 HX3
      generalize World.setRow w2 _ _ = W3 at *
      clear q1 q2 hb2 hQ hqd hl HL
      go_loopw [6, 7] (fun s6 s7 wr => ∃ i : Nat, s6 = .int .i64 (i : Int) ∧ s7 = .int .i64 ((L.length : Int) - 1 - i) ∧ 2 * i ≤ L.length ∧ Hid (RW g L.length (sw L i) 5 wr ∧ Below w.heap.size w wr)) (fun s6 _ _ => L.length - (intOf s6).toNat)
      case atStart => exact ⟨0, rfl, by go_num, by omega, Lib.hid ⟨HRW.out.ext (fun j hj => sw_zero L j hj), Hb3.out⟩⟩
      case round =>
        obtain ⟨i, rfl, rfl, hi2, hq⟩ := hrel
        clear HRW Hb3
        by_cases hil : 2 * i + 1 < L.length
        · have c1 := hq.out.1.cell (i := i) (by omega)
          have c2 := hq.out.1.cell (i := L.length - 1 - i) (by omega)
          rw [(sw_lo L i hil).1] at c1
          rw [(sw_lo L i hil).2] at c2
          have f1 := hq.out.1.free i
          have f2 := hq.out.1.free (L.length - 1 - i)
          have b1 : (i : Int) < (L.length : Int) - 1 - i := by omega
          have b0 : (i : Int) < L.length := by omega
          have b4 : (L.length : Int) - 1 - i < L.length := by omega
          have b5 : (0 : Int) ≤ (L.length : Int) - 1 - i := by omega
          have b6 : i ≠ L.length - 1 - i := by omega
          have HN := Lib.hid (((hq.out.1.set (L.getD (L.length - 1 - i) 0) (k := i) (by omega)).set (L.getD i 0) (k := L.length - 1 - i) (by omega)).ext (fun j hj => sw_step L i j hil hj))
          generalize L.getD i 0 = x at *
          generalize L.getD (L.length - 1 - i) 0 = y at *
          have b2 : IntKind.i64.wrap ((L.length : Int) - 1 - i) = (L.length : Int) - 1 - i := IntWalk.i64_in _ (by omega)
          have b3 : ((L.length : Int) - 1 - i).toNat = L.length - 1 - i := by omega
          unfold Extern.Stop.cell at c1 c2
          go_wp2_with fail
          go_region
          all_goals
            clear c1 c2 f1 f2
            have HN2 := Lib.hid (show RW g L.length (sw L (i + 1)) 5 ((World.setCell (World.drew wr) ⟨g, i, none⟩ (.int .u8 (Int.ofNat y.toNat))).setCell ⟨g, L.length - 1 - i, none⟩ (.int .u8 (Int.ofNat x.toNat))) from HN.out)
            have HB2 := Lib.hid (show Below w.heap.size w ((World.setCell (World.drew wr) ⟨g, i, none⟩ (.int .u8 (Int.ofNat y.toNat))).setCell ⟨g, L.length - 1 - i, none⟩ (.int .u8 (Int.ofNat x.toNat))) from (hq.out.2.drew.setCell (by simp; omega) _).setCell (by simp; omega) _)
            generalize World.setCell (World.setCell _ _ _) _ _ = W4 at *
            clear hq HN
            go_wp2_with fail
            go_roundw
            case rel => exact ⟨i + 1, by go_num, by go_num, by omega, Lib.hid ⟨HN2.out, HB2.out⟩⟩
            case measure => simp [intOf] <;> omega
        · have b1 : ¬ ((i : Int) < (L.length : Int) - 1 - i) := by omega
          have hSB : SB wr (.slice (some ⟨g, 0, none⟩) L.length c) L.reverse := ⟨by rw [List.length_reverse]; exact Nat.le_trans hlc hcb, some ⟨g, 0, none⟩, c, by rw [List.length_reverse], by rw [List.length_reverse]; exact hlc, hcb, fun _ => ⟨g, 0, rfl, hq.out.1.range (by simp) (fun j hj => sw_done L i j (by omega) hj)⟩⟩
          have hcv := run_string_bytes (P := Tryd.prog) Tbs Tu8 Tst hSB
          clear hSB
          go_wp2_with fail
          go_ret
          refine ⟨?_, hq.out.2⟩
          unfold decL
          rw [HLq.out]
          rfl
    · rw [decide_eq_false h0] at q1
      have HL := Lib.hid (show (l ++ [UInt8.ofNat (48 + d)]) ++ d10 Q = d10 X from by
        have e := d10_more (X := Y) (by rw [← hqd.out.1]; exact h0)
        rw [← hl.out.1, e, ← hqd.out.1, ← hqd.out.2]
        simp)
      have HK := Lib.hid (show (d10 Q).length < gk by
        have e := d10_more (X := Y) (by rw [← hqd.out.1]; exact h0)
        rw [hl.out.2, e, List.length_cons, ← hqd.out.1]
        omega)
      clear h0
      go_wp2_with (first | (refine wpList_store_row (by rfl) 26 _ _ rfl _ (FC 5 (lb Q)).toArray rfl rfl _ _ HX2.out (IN5 _) (SZ5 _ _) (FC_one 5 _) ?_) | (refine wpList_load_row (by rfl) 26 (.tmp 4) (by rfl) _ (by rfl) _ _ _ _ HG2.out UN5 rfl (IN5 _) ?_) | (refine wpList_load_row (by rfl) 26 (.tmp 1) (by rfl) _ (by rfl) _ _ _ _ HX3.out UN5 rfl (IN5 _) ?_))
      go_roundg ((d10 Q).length)
      case measure => exact HK.out
      case rel => exact ⟨Q, _, hQ, Lib.hid ⟨HL.out, rfl⟩, Lib.hid ⟨HX3.out, Hb3.out⟩, Ho3⟩
end Go.Proofs.YtihdeanfcbiflaaDoor.Lg
