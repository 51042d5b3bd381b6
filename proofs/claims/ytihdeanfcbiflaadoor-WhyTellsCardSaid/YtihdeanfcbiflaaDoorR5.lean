/- The walks of the document's numbers in digits: without digits 0 behind; of limbs. -/
import Derived.Test.YtihdeanfcbiflaaDoorRow1
import Derived.Test.YtihdeanfcbiflaaDoorUl
import Derived.Test.YtihdeanfcbiflaaDoorDgMath
import Derived.ChangeOld
import Derived.Test.YtihdeanfcbiflaaDoorProg
namespace Go.Proofs.YtihdeanfcbiflaaDoor.R5
open Go.RowKit Go.Proofs.YtihdeanfcbiflaaDoor.Mk Go.Proofs.YtihdeanfcbiflaaDoor.Ul Go.Proofs.YtihdeanfcbiflaaDoor.Wi
theorem UDg : Tryd.prog.underlying 57 = some (.slice 3) := by kernel_rfl
theorem IInt : (Tryd.prog.info? 3).map (fun i => (i.zero, i.size, i.bytes)) = some (some (.int .i64 0), 1, 8) := by kernel_rfl
def mkI (n : Nat) : Value := .int .i64 (n : Int)
/-- a slice of digits -/
abbrev DS (w : World) (v : Value) (l : List Nat) : Prop := SL (E1 mkI) 1 w v l
abbrev DV (w : World) (v : Value) (X : Nat) : Prop := SL (E1 mkI) 1 w v (dl X)
abbrev DO (B : Nat) (w : World) (v : Value) (l : List Nat) : Prop := w.ownsRow B 3 1 v l.length (l.map mkI)
set_option maxHeartbeats 4000000 in
set_option maxRecDepth 100000 in
theorem trim_calls (l : List Nat) (v : Value) (w : World) (hd : ∀ d ∈ l, d < 65536) (h : DS w v l) :
    Calls Tryd.prog 42 #[v] w fun e w' => ∃ v', e = .returned v' ∧ DV w v' (val 65536 l) ∧ w' = w := by
  have hbd := h.len1
  obtain ⟨A, c, rfl, hlc, hcm, hcell⟩ := h.cell1
  have HC := Lib.hid hcell
  have HD := Lib.hid hd
  have HF := Lib.hid (show ∀ k, k ≤ l.length → dl (val 65536 l) = l.take k → DV w (.slice A k c) (val 65536 l) from fun k hk he => by
    unfold DV
    rw [he]
    exact h.take k hk)
  have hcm' : c ≤ 9223372036854775807 := hcm
  clear hd h hcell hcm
  go_enter Tryd.func42, Tryd.ntmps42
  go_wp2_with fail
  go_loop [0] (fun s0 => ∃ k : Nat, k ≤ l.length ∧ s0 = .slice A k c ∧ Hid (val 65536 (l.take k) = val 65536 l)) (fun s0 => match s0 with | .slice _ n _ => n | _ => 0)
  case atStart => exact ⟨l.length, Nat.le_refl _, rfl, Lib.hid (by rw [List.take_length])⟩
  case round =>
    obtain ⟨k, hk, rfl, hv⟩ := hrel
    by_cases hk0 : k = 0
    · subst hk0
      have HE := Lib.hid (HF.out 0 (Nat.zero_le _) (by rw [← hv.out]; exact dl_zero))
      go_wp2_with fail
      go_ret
      exact ⟨_, rfl, HE.out, rfl⟩
    · obtain ⟨j, rfl⟩ : ∃ j, k = j + 1 := ⟨k - 1, by omega⟩
      have hjl : j < l.length := by omega
      obtain ⟨b, o, rfl, hc⟩ := HC.out (by omega)
      have c1 := hc j l[j] (List.getElem?_eq_getElem hjl)
      unfold mkI at c1
      by_cases hz : l[j] = 0
      · have HV := Lib.hid ((val_take_zero hjl (by rw [List.getElem?_eq_getElem hjl, hz])).symm.trans hv.out)
        rw [hz] at c1
        clear hz hc
        go_wp2_with fail
        exact ⟨⟨j, by omega, rfl, HV⟩, Nat.lt_succ_self j⟩
      · have hz2 : ((l[j] : Int) == 0) = false := by simp; omega
        have HE := Lib.hid (HF.out (j + 1) hk (by
          rw [← hv.out]
          refine dl_val _ (fun d hd => HD.out d (List.mem_of_mem_take hd)) (fun k hk2 h0 => hz ?_)
          rw [List.length_take, Nat.min_eq_left hk] at hk2
          obtain rfl : j = k := by omega
          rw [List.getElem?_take, if_pos (by omega), List.getElem?_eq_getElem hjl] at h0
          exact Option.some.inj h0))
        generalize l[j] = d at *
        clear hz hc
        go_wp2_with fail
        go_ret
        exact ⟨_, rfl, HE.out, rfl⟩
/-- n limbs lie in block g from o on -/
def LB (w : World) (g o n X : Nat) : Prop := ∀ i, i < n → w.cell? ⟨g, o + i, none⟩ = some (.int .u64 (lb X i : Nat))
theorem LB.of (w : World) {g n X : Nat} {t : TypeId} (h : FB g n (lb X) t w) : LB w g 0 n X := fun i hi => by rw [Nat.zero_add]; exact h.cell hi
theorem LB.keep {w w' : World} {g o n X : Nat} (h : LB w g o n X) (hb : Below w.heap.size w w') : LB w' g o n X := fun i hi => by
  have h1 := h i hi
  rw [hb.cell (p := ⟨g, o + i, none⟩) (block_lt_of_cell h1)]
  exact h1
theorem LB.eq {w w' : World} {g o n X : Nat} (h : LB w g o n X) (he : w'.heap[g]? = w.heap[g]?) : LB w' g o n X := fun k hk => (World.cell?_of_block (a := ⟨g, o + k, none⟩) he).trans (h k hk)
set_option maxHeartbeats 4000000 in
set_option maxRecDepth 100000 in
theorem limbs_calls (X g o n c : Nat) (w : World) (hX : X < (2 ^ 64) ^ n) (hn : 0 < n) (hn5 : n ≤ 100) (h : LB w g o n X) :
    Calls Tryd.prog 22 #[.slice (some ⟨g, o, none⟩) n c] w fun e w' => ∃ v, e = .returned v ∧ DV w' v X ∧ Below w.heap.size w w' := by
  obtain ⟨i0, hi, hz0, hz1, hz2⟩ := info_parts IInt
  have hgl : g < w.heap.size := block_lt_of_cell (h 0 hn)
  have HT : Hid (val 65536 (digs 65536 (4 * n) X) = X) := Lib.hid (val_digs (by decide) _ _ (by rwa [Nat.pow_mul, show (65536 : Nat) ^ 4 = 2 ^ 64 by decide]))
  have H0 := Lib.hid (And.intro h (Below.refl w.heap.size w))
  clear hX h
  go_enter Tryd.func22, Tryd.ntmps22
  go_wp2_with fail
  go_loopw [3, 4] (fun s3 s4 wr => ∃ i : Nat, i ≤ n ∧ s4 = .int .i64 i ∧ Hid (DO w.heap.size wr s3 (digs 65536 (4 * i) X)) ∧ Hid (LB wr g o n X ∧ Below w.heap.size w wr)) (fun _ s4 _ => n - (intOf s4).toNat)
  case atStart => exact ⟨0, by omega, rfl, Lib.hid (World.ownsRow_nil _ _ _ _), H0⟩
  case round =>
    obtain ⟨i, hin, rfl, ho, hq⟩ := hrel
    by_cases hil : i < n
    · have c1 := hq.out.1 i hil
      have HD := Lib.hid (fun k (hk : k < 4) => dg_limb X i k hk)
      have hxl := lb_lt X i
      generalize lb X i = x at *
      have i1 : (i : Int) < n := by omega
      have i3 : decide ((i : Int) < n) = true := decide_eq_true i1
      go_wp2_with fail
      clear c1
      obtain ⟨wo, rfl⟩ : ∃ wo : World, wo = wr := ⟨_, rfl⟩
      go_loopw [3, 5, 6] (fun s3 s5 s6 wr => ∃ k : Nat, k ≤ 4 ∧ s6 = .int .i64 k ∧ s5 = .int .u64 ((x / 65536 ^ k : Nat) : Int) ∧ Hid (DO w.heap.size wr s3 (digs 65536 (4 * i + k) X)) ∧ Hid (LB wr g o n X ∧ Below w.heap.size w wr)) (fun _ _ s6 _ => 4 - (intOf s6).toNat)
      case atStart => exact ⟨0, by omega, rfl, by simp, Lib.hid ho.out, hq⟩
      case round =>
        clear ho hq
        obtain ⟨k, hk, rfl, rfl, ho, hq⟩ := hrel
        by_cases hkl : k < 4
        · have hb := HD.out k hkl
          have hh := Lib.hid (div_16 x k)
          have hle : x / 65536 ^ k < 18446744073709551616 := Nat.lt_of_le_of_lt (Nat.div_le_self _ _) hxl
          have hlen : (digs 65536 (4 * i + k) X).length ≤ 1000 := by rw [digs_len]; omega
          have hml := Nat.mod_lt (x / 65536 ^ k) (show 0 < 65536 by decide)
          generalize x / 65536 ^ k = y at *
          have hb2 : (y : Int) % 65536 = ((y % 65536 : Nat) : Int) := by omega
          obtain ⟨d, hdd⟩ : ∃ d, d = y % 65536 := ⟨_, rfl⟩
          rw [← hdd] at hb2 hml hb
          have HB := Lib.hid hb
          clear hdd hb
          have hsz := hq.out.2.size
          go_wp2_with (at_builtin; refine wpList_append_own _ rfl _ _ 57 rfl w.heap.size 3 i0 _ 1 8 UDg hi hz0 hz1 hz2 rfl (by decide) _ _ _ rfl (ho.out.alloc _) ⟨wr.heap.size, 0, none⟩ 1 1 [.int .i64 (d : Int)] rfl ?c1 ?c2 ?c3 ?c4 ?c5 ?c6 ?_)
          case c1 => rfl
          case c2 => exact cell_one_new _ _ _
          case c3 => intro u hu; rw [List.mem_singleton.1 hu]; rfl
          case c4 => simp only [maxLen]; omega
          case c5 => omega
          case c6 => simp <;> omega
          intro v2 w2 ho2 hg2 _
          have hgn := grown_new hg2 (fun k hk => (ho.out.lt k hk).1) hq.out.2 (Nat.le_refl _) hsz
          have Ho2 := Lib.hid (SL.append1 (f := mkI) (x := d) ho2)
          rw [HB.out, ← digs_succ] at Ho2
          have HQ2 := Lib.hid (And.intro (hq.out.1.eq (hgn.2.2 g hgl (by omega))) hgn.1)
          clear ho2 hg2 hgn ho hq hlen hsz hb2
          go_wp2_with fail
          go_roundw
          case rel => exact ⟨k + 1, by omega, by go_num, by rw [← hh.out]; go_num, Ho2, HQ2⟩
          case measure => simp [intOf] <;> omega
        · obtain rfl : k = 4 := by omega
          have Ho := Lib.hid ho.out
          clear ho
          go_wp2_with fail
          go_roundw
          case rel => exact ⟨i + 1, by omega, by go_num, by rw [show 4 * (i + 1) = 4 * i + 4 by omega]; exact Ho, hq⟩
          case measure => simp [intOf] <;> omega
    · obtain rfl : i = n := by omega
      have hT := Lib.hid (fun v w h => trim_calls (digs 65536 (4 * i) X) v w (digs_lt (by decide) _ _) h)
      rw [HT.out] at hT
      have Ho := Lib.hid (SL.of_owns1 ho.out (by rw [digs_len]; omega))
      have i3 : decide ((i : Int) < i) = false := decide_eq_false (by omega)
      clear ho
      go_wp2_with fail
      refine (hT.out _ _ Ho.out).mono ?_
      rintro e w1 ⟨v', rfl, hv, rfl⟩
      have HV := Lib.hid hv
      clear hv
      go_wp2_with fail
      go_ret
      exact ⟨_, rfl, HV.out, hq.out.2⟩
set_option maxHeartbeats 4000000 in
set_option maxRecDepth 100000 in
theorem r5of_calls (x : Nat) (w : World) (hx : x < 18446744073709551616) :
    Calls Tryd.prog 21 #[.int .u64 x] w fun e w' => ∃ v, e = .returned v ∧ DV w' v x ∧ Below w.heap.size w w' := by
  have hl0 : lb x 0 = x := by
    unfold lb dg
    rw [Nat.pow_zero, Nat.div_one, Nat.mod_eq_of_lt (by omega)]
  have HB := Lib.hid (show LB (w.alloc (.cells #[.int .u64 (x : Int)] 24)) w.heap.size 0 1 x from fun i hi => by
    obtain rfl : i = 0 := by omega
    rw [hl0]
    rw [cell_of_row _ _ _ _ _ _ (nw1 w (.cells #[.int .u64 (x : Int)] 24))]
    rfl)
  have hlt : x < (2 ^ 64) ^ 1 := by omega
  have HM := Lib.hid (limbs_calls x w.heap.size 0 1 1 (w.alloc (.cells #[.int .u64 (x : Int)] 24)) hlt (by decide) (by decide) HB.out)
  clear hl0 hlt hx
  go_enter Tryd.func21, Tryd.ntmps21
  go_wp2_with fail
  refine HM.out.mono ?_
  rintro e w1 ⟨v, rfl, hv, hb⟩
  have HV := Lib.hid (And.intro hv (below_up (bl1 w _) hb))
  clear hv hb
  go_wp2_with fail
  go_ret
  exact ⟨_, rfl, HV.out.1, HV.out.2⟩
end Go.Proofs.YtihdeanfcbiflaaDoor.R5
