import Derived.Test.YtihdeanfcbiflaaDoorRow1
import Derived.Test.YtihdeanfcbiflaaDoorUl
import Derived.Test.YtihdeanfcbiflaaDoorDgMath
import Derived.ChangeOld
import Derived.Test.YtihdeanfcbiflaaDoorProg
import Derived.Deep.QuietTactic
import Derived.BigQuiet
import Derived.IntWalk
import Derived.Deep.LoopGhost
import Derived.Laws.AppendOwnNone
import Derived.Test.YtihdeanfcbiflaaDoorLgTMath
/- The walks of the document's numbers in digits: without digits 0 behind; of limbs. -/
namespace Go.Proofs.YtihdeanfcbiflaaDoor.R5
open Go.RowKit Go.Proofs.YtihdeanfcbiflaaDoor.Mk Go.Proofs.YtihdeanfcbiflaaDoor.Ul Go.Proofs.YtihdeanfcbiflaaDoor.Wi
theorem UDg : Tryd.prog.underlying 57 = some (.slice 3) := by kernel_rfl
theorem IInt : (Tryd.prog.info? 3).map (fun i => (i.zero, i.size, i.bytes)) = some (some (.int .i64 0), 1, 8) := by kernel_rfl
def mkI (n : Nat) : Value := .int .i64 (n : Int)
/-- a slice of digits -/
abbrev DS (w : World) (v : Value) (l : List Nat) : Prop := SL (E1 mkI) 1 w v l
abbrev DV (w : World) (v : Value) (X : Nat) : Prop := SL (E1 mkI) 1 w v (dl X)
abbrev DO (B : Nat) (w : World) (v : Value) (l : List Nat) : Prop := w.ownsRow B 3 1 v l.length (l.map mkI)
set_option maxHeartbeats 4000000 in
set_option maxRecDepth 100000 in
theorem trim_calls (l : List Nat) (v : Value) (w : World) (hd : ∀ d ∈ l, d < 65536) (h : DS w v l) :
    Calls Tryd.prog 42 #[v] w fun e w' => ∃ v', e = .returned v' ∧ DV w v' (val 65536 l) ∧ w' = w := by
  have hbd := h.len1
  obtain ⟨A, c, rfl, hlc, hcm, hcell⟩ := h.cell1
  have HC := Lib.hid hcell
  have HD := Lib.hid hd
  have HF := Lib.hid (show ∀ k, k ≤ l.length → dl (val 65536 l) = l.take k → DV w (.slice A k c) (val 65536 l) from fun k hk he => by
    unfold DV
    rw [he]
    exact h.take k hk)
  have hcm' : c ≤ 9223372036854775807 := hcm
  clear hd h hcell hcm
  go_enter Tryd.func42, Tryd.ntmps42
  go_wp2_with fail
  go_loop [0] (fun s0 => ∃ k : Nat, k ≤ l.length ∧ s0 = .slice A k c ∧ Hid (val 65536 (l.take k) = val 65536 l)) (fun s0 => match s0 with | .slice _ n _ => n | _ => 0)
  case atStart => exact ⟨l.length, Nat.le_refl _, rfl, Lib.hid (by rw [List.take_length])⟩
  case round =>
    obtain ⟨k, hk, rfl, hv⟩ := hrel
    by_cases hk0 : k = 0
    · subst hk0
      have HE := Lib.hid (HF.out 0 (Nat.zero_le _) (by rw [← hv.out]; exact dl_zero))
      go_wp2_with fail
      go_ret
      exact ⟨_, rfl, HE.out, rfl⟩
    · obtain ⟨j, rfl⟩ : ∃ j, k = j + 1 := ⟨k - 1, by omega⟩
      have hjl : j < l.length := by omega
      obtain ⟨b, o, rfl, hc⟩ := HC.out (by omega)
      have c1 := hc j l[j] (List.getElem?_eq_getElem hjl)
      unfold mkI at c1
      by_cases hz : l[j] = 0
      · have HV := Lib.hid ((val_take_zero hjl (by rw [List.getElem?_eq_getElem hjl, hz])).symm.trans hv.out)
        rw [hz] at c1
        clear hz hc
        go_wp2_with fail
        exact ⟨⟨j, by omega, rfl, HV⟩, Nat.lt_succ_self j⟩
      · have hz2 : ((l[j] : Int) == 0) = false := by simp; omega
        have HE := Lib.hid (HF.out (j + 1) hk (by
          rw [← hv.out]
          refine dl_val _ (fun d hd => HD.out d (List.mem_of_mem_take hd)) (fun k hk2 h0 => hz ?_)
          rw [List.length_take, Nat.min_eq_left hk] at hk2
          obtain rfl : j = k := by omega
          rw [List.getElem?_take, if_pos (by omega), List.getElem?_eq_getElem hjl] at h0
          exact Option.some.inj h0))
        generalize l[j] = d at *
        clear hz hc
        go_wp2_with fail
        go_ret
        exact ⟨_, rfl, HE.out, rfl⟩
/-- n limbs lie in block g from o on -/
def LB (w : World) (g o n X : Nat) : Prop := ∀ i, i < n → w.cell? ⟨g, o + i, none⟩ = some (.int .u64 (lb X i : Nat))
theorem LB.of (w : World) {g n X : Nat} {t : TypeId} (h : FB g n (lb X) t w) : LB w g 0 n X := fun i hi => by rw [Nat.zero_add]; exact h.cell hi
theorem LB.keep {w w' : World} {g o n X : Nat} (h : LB w g o n X) (hb : Below w.heap.size w w') : LB w' g o n X := fun i hi => by
  have h1 := h i hi
  rw [hb.cell (p := ⟨g, o + i, none⟩) (block_lt_of_cell h1)]
  exact h1
theorem LB.eq {w w' : World} {g o n X : Nat} (h : LB w g o n X) (he : w'.heap[g]? = w.heap[g]?) : LB w' g o n X := fun k hk => (World.cell?_of_block (a := ⟨g, o + k, none⟩) he).trans (h k hk)
set_option maxHeartbeats 4000000 in
set_option maxRecDepth 100000 in
theorem limbs_calls (X g o n c : Nat) (w : World) (hX : X < (2 ^ 64) ^ n) (hn : 0 < n) (hn5 : n ≤ 100) (h : LB w g o n X) :
    Calls Tryd.prog 22 #[.slice (some ⟨g, o, none⟩) n c] w fun e w' => ∃ v, e = .returned v ∧ DV w' v X ∧ Below w.heap.size w w' := by
  obtain ⟨i0, hi, hz0, hz1, hz2⟩ := info_parts IInt
  have hgl : g < w.heap.size := block_lt_of_cell (h 0 hn)
  have HT : Hid (val 65536 (digs 65536 (4 * n) X) = X) := Lib.hid (val_digs (by decide) _ _ (by rwa [Nat.pow_mul, show (65536 : Nat) ^ 4 = 2 ^ 64 by decide]))
  have H0 := Lib.hid (And.intro h (Below.refl w.heap.size w))
  clear hX h
  go_enter Tryd.func22, Tryd.ntmps22
  go_wp2_with fail
  go_loopw [3, 4] (fun s3 s4 wr => ∃ i : Nat, i ≤ n ∧ s4 = .int .i64 i ∧ Hid (DO w.heap.size wr s3 (digs 65536 (4 * i) X)) ∧ Hid (LB wr g o n X ∧ Below w.heap.size w wr)) (fun _ s4 _ => n - (intOf s4).toNat)
  case atStart => exact ⟨0, by omega, rfl, Lib.hid (World.ownsRow_nil _ _ _ _), H0⟩
  case round =>
    obtain ⟨i, hin, rfl, ho, hq⟩ := hrel
    by_cases hil : i < n
    · have c1 := hq.out.1 i hil
      have HD := Lib.hid (fun k (hk : k < 4) => dg_limb X i k hk)
      have hxl := lb_lt X i
      generalize lb X i = x at *
      have i1 : (i : Int) < n := by omega
      have i3 : decide ((i : Int) < n) = true := decide_eq_true i1
      go_wp2_with fail
      clear c1
      obtain ⟨wo, rfl⟩ : ∃ wo : World, wo = wr := ⟨_, rfl⟩
      go_loopw [3, 5, 6] (fun s3 s5 s6 wr => ∃ k : Nat, k ≤ 4 ∧ s6 = .int .i64 k ∧ s5 = .int .u64 ((x / 65536 ^ k : Nat) : Int) ∧ Hid (DO w.heap.size wr s3 (digs 65536 (4 * i + k) X)) ∧ Hid (LB wr g o n X ∧ Below w.heap.size w wr)) (fun _ _ s6 _ => 4 - (intOf s6).toNat)
      case atStart => exact ⟨0, by omega, rfl, by simp, Lib.hid ho.out, hq⟩
      case round =>
        clear ho hq
        obtain ⟨k, hk, rfl, rfl, ho, hq⟩ := hrel
        by_cases hkl : k < 4
        · have hb := HD.out k hkl
          have hh := Lib.hid (div_16 x k)
          have hle : x / 65536 ^ k < 18446744073709551616 := Nat.lt_of_le_of_lt (Nat.div_le_self _ _) hxl
          have hlen : (digs 65536 (4 * i + k) X).length ≤ 1000 := by rw [digs_len]; omega
          have hml := Nat.mod_lt (x / 65536 ^ k) (show 0 < 65536 by decide)
          generalize x / 65536 ^ k = y at *
          have hb2 : (y : Int) % 65536 = ((y % 65536 : Nat) : Int) := by omega
          obtain ⟨d, hdd⟩ : ∃ d, d = y % 65536 := ⟨_, rfl⟩
          rw [← hdd] at hb2 hml hb
          have HB := Lib.hid hb
          clear hdd hb
          have hsz := hq.out.2.size
          go_wp2_with (at_builtin; refine wpList_append_own _ rfl _ _ 57 rfl w.heap.size 3 i0 _ 1 8 UDg hi hz0 hz1 hz2 rfl (by decide) _ _ _ rfl (ho.out.alloc _) ⟨wr.heap.size, 0, none⟩ 1 1 [.int .i64 (d : Int)] rfl ?c1 ?c2 ?c3 ?c4 ?c5 ?c6 ?_)
          case c1 => rfl
          case c2 => exact cell_one_new _ _ _
          case c3 => intro u hu; rw [List.mem_singleton.1 hu]; rfl
          case c4 => simp only [maxLen]; omega
          case c5 => omega
          case c6 => simp <;> omega
          intro v2 w2 ho2 hg2 _
          have hgn := grown_new hg2 (fun k hk => (ho.out.lt k hk).1) hq.out.2 (Nat.le_refl _) hsz
          have Ho2 := Lib.hid (SL.append1 (f := mkI) (x := d) ho2)
          rw [HB.out, ← digs_succ] at Ho2
          have HQ2 := Lib.hid (And.intro (hq.out.1.eq (hgn.2.2 g hgl (by omega))) hgn.1)
          clear ho2 hg2 hgn ho hq hlen hsz hb2
          go_wp2_with fail
          go_roundw
          case rel => exact ⟨k + 1, by omega, by go_num, by rw [← hh.out]; go_num, Ho2, HQ2⟩
          case measure => simp [intOf] <;> omega
        · obtain rfl : k = 4 := by omega
          have Ho := Lib.hid ho.out
          clear ho
          go_wp2_with fail
          go_roundw
          case rel => exact ⟨i + 1, by omega, by go_num, by rw [show 4 * (i + 1) = 4 * i + 4 by omega]; exact Ho, hq⟩
          case measure => simp [intOf] <;> omega
    · obtain rfl : i = n := by omega
      have hT := Lib.hid (fun v w h => trim_calls (digs 65536 (4 * i) X) v w (digs_lt (by decide) _ _) h)
      rw [HT.out] at hT
      have Ho := Lib.hid (SL.of_owns1 ho.out (by rw [digs_len]; omega))
      have i3 : decide ((i : Int) < i) = false := decide_eq_false (by omega)
      clear ho
      go_wp2_with fail
      refine (hT.out _ _ Ho.out).mono ?_
      rintro e w1 ⟨v', rfl, hv, rfl⟩
      have HV := Lib.hid hv
      clear hv
      go_wp2_with fail
      go_ret
      exact ⟨_, rfl, HV.out, hq.out.2⟩
set_option maxHeartbeats 4000000 in
set_option maxRecDepth 100000 in
theorem r5of_calls (x : Nat) (w : World) (hx : x < 18446744073709551616) :
    Calls Tryd.prog 21 #[.int .u64 x] w fun e w' => ∃ v, e = .returned v ∧ DV w' v x ∧ Below w.heap.size w w' := by
  have hl0 : lb x 0 = x := by
    unfold lb dg
    rw [Nat.pow_zero, Nat.div_one, Nat.mod_eq_of_lt (by omega)]
  have HB := Lib.hid (show LB (w.alloc (.cells #[.int .u64 (x : Int)] 24)) w.heap.size 0 1 x from fun i hi => by
    obtain rfl : i = 0 := by omega
    rw [hl0]
    rw [cell_of_row _ _ _ _ _ _ (nw1 w (.cells #[.int .u64 (x : Int)] 24))]
    rfl)
  have hlt : x < (2 ^ 64) ^ 1 := by omega
  have HM := Lib.hid (limbs_calls x w.heap.size 0 1 1 (w.alloc (.cells #[.int .u64 (x : Int)] 24)) hlt (by decide) (by decide) HB.out)
  clear hl0 hlt hx
  go_enter Tryd.func21, Tryd.ntmps21
  go_wp2_with fail
  refine HM.out.mono ?_
  rintro e w1 ⟨v, rfl, hv, hb⟩
  have HV := Lib.hid (And.intro hv (below_up (bl1 w _) hb))
  clear hv hb
  go_wp2_with fail
  go_ret
  exact ⟨_, rfl, HV.out.1, HV.out.2⟩
end Go.Proofs.YtihdeanfcbiflaaDoor.R5

/- The walks of how many bits a number in digits has, and how two stand. -/
namespace Go.Proofs.YtihdeanfcbiflaaDoor.R5
open Go.RowKit Go.Proofs.YtihdeanfcbiflaaDoor.Mk Go.Proofs.YtihdeanfcbiflaaDoor.Ul Go.Proofs.YtihdeanfcbiflaaDoor.Wi
theorem DV.open {w : World} {v : Value} {X : Nat} (h : DV w v X) : ∃ A c, v = .slice A (dn X) c ∧ dn X ≤ c ∧ c ≤ 9223372036854775807 ∧ dn X ≤ 140737488355328 ∧ (0 < dn X → ∃ b o, A = some ⟨b, o, none⟩ ∧ ∀ k, k < dn X → w.cell? ⟨b, o + k, none⟩ = some (.int .i64 (dg 65536 X k : Nat))) := by
  have hbd := h.len1
  obtain ⟨A, c, h1, h2, h3, h4⟩ := h.cell1
  refine ⟨A, c, h1, h2, h3, hbd, fun hp => ?_⟩
  obtain ⟨b, o, h5, h6⟩ := h4 hp
  exact ⟨b, o, h5, fun k hk => h6 k _ (dl_get k X hk)⟩
set_option maxHeartbeats 4000000 in
set_option maxRecDepth 100000 in
theorem r5cmp_calls (X Y : Nat) (v1 v2 : Value) (w : World) (h1 : DV w v1 X) (h2 : DV w v2 Y) :
    Calls Tryd.prog 34 #[v1, v2] w fun e w' => e = .returned (.int .i64 (cmpI X Y)) ∧ Below w.heap.size w w' := by
  obtain ⟨A1, c1, rfl, hlc1, hcm1, hbd1, ha1⟩ := h1.open
  obtain ⟨A2, c2, rfl, hlc2, hcm2, hbd2, ha2⟩ := h2.open
  clear h1 h2
  rcases Nat.lt_trichotomy (dn X) (dn Y) with hl | hl | hl
  · have HE := Lib.hid (cmpI_lt (dn_lt hl))
    have t1 : ((dn X : Int) != (dn Y : Int)) = true := by simp; omega
    have t2 : ¬ (dn Y : Int) < (dn X : Int) := by omega
    clear ha1 ha2
    generalize dn X = a at *
    generalize dn Y = b at *
    go_enter Tryd.func34, Tryd.ntmps34
    go_wp2_with fail
    go_ret
    exact ⟨by rw [HE.out]; rfl, Below.refl _ _⟩
  · rcases Nat.eq_zero_or_pos (dn Y) with h0 | hp
    · have HE := Lib.hid (cmpI_eq ((dn_zero (hl.trans h0)).trans (dn_zero h0).symm))
      rw [hl, h0]
      clear ha1 ha2 hl h0
      go_enter Tryd.func34, Tryd.ntmps34
      go_wp2_with fail
      go_loop [5] (fun s5 => s5 = .int .i64 (-1)) (fun _ => 0)
      case atStart => rfl
      case round =>
        obtain rfl := hrel
        go_wp2_with fail
        go_ret
        exact ⟨by rw [HE.out]; rfl, Below.refl _ _⟩
    · obtain ⟨b1, o1, rfl, r1⟩ := ha1 (by omega)
      obtain ⟨b2, o2, rfl, r2⟩ := ha2 hp
      have HT := Lib.hid (Hi16.top hl rfl)
      rw [hl] at hlc1 hbd1 r1 ⊢
      clear ha1 ha2 hl
      have H0 := Lib.hid (And.intro r1 (And.intro r2 (Below.refl w.heap.size w)))
      clear r1 r2
      generalize dn Y = n at *
      go_enter Tryd.func34, Tryd.ntmps34
      go_wp2_with fail
      go_loopw [5] (fun s5 wr => ∃ j : Nat, j ≤ n ∧ s5 = .int .i64 ((n : Int) - 1 - (j : Int)) ∧ Hid ((∀ k, k < n → wr.cell? ⟨b1, o1 + k, none⟩ = some (.int .i64 (dg 65536 X k : Nat))) ∧ (∀ k, k < n → wr.cell? ⟨b2, o2 + k, none⟩ = some (.int .i64 (dg 65536 Y k : Nat))) ∧ Below w.heap.size w wr) ∧ Hid (Hi16 X Y (n - j))) (fun s5 _ => (intOf s5 + 1).toNat)
      case atStart => exact ⟨0, by omega, by simp, H0, HT⟩
      case round =>
        obtain ⟨j, hj, rfl, hq, hhi⟩ := hrel
        by_cases hjl : j < n
        · have c1 := hq.out.1 (n - 1 - j) (by omega)
          have c2 := hq.out.2.1 (n - 1 - j) (by omega)
          have hs := hhi.out
          have hnj : (n - 1 - j) = n - (j + 1) := by omega
          rw [show n - j = n - (j + 1) + 1 by omega] at hs
          have hst := hs.step
          rw [← hnj] at hst
          have HK := Lib.hid hnj
          have i1 : (0 : Int) ≤ (n : Int) - 1 - j := by omega
          have i3 : (n : Int) - 1 - j < n := by omega
          clear hs hhi hnj
          generalize dg 65536 X (n - 1 - j) = a at *
          generalize dg 65536 Y (n - 1 - j) = b at *
          have HS := Lib.hid hst
          clear hst
          have hQ : ∀ nq, Hid ((∀ k, k < n → (wr.drewN nq).cell? ⟨b1, o1 + k, none⟩ = some (.int .i64 (dg 65536 X k : Nat))) ∧ (∀ k, k < n → (wr.drewN nq).cell? ⟨b2, o2 + k, none⟩ = some (.int .i64 (dg 65536 Y k : Nat))) ∧ Below w.heap.size w (wr.drewN nq)) := fun nq => Lib.hid ⟨hq.out.1, hq.out.2.1, bdN hq.out.2.2 _⟩
          have HQ := Lib.hid hQ
          clear hQ
          rcases Nat.lt_trichotomy a b with t1 | t1 | t1
          · go_wp2_with fail
            go_quiet (fail)
            go_wp2_with fail
            go_quiet (fail)
            go_wp2_with fail
            go_ret
            exact ⟨by rw [HS.out.1 t1]; rfl, bdN (HQ.out _).out.2.2 _⟩
          · subst t1
            go_wp2_with fail
            go_quiet (fail)
            go_wp2_with fail
            go_quiet (fail)
            go_wp2_with fail
            go_roundw
            case rel => exact ⟨j + 1, by omega, by go_num, HQ.out _, Lib.hid (by rw [← HK.out]; exact HS.out.2.2 (by trivial))⟩
            case measure => simp [intOf] <;> omega
          · go_wp2_with fail
            go_quiet (fail)
            go_wp2_with fail
            go_ret
            exact ⟨by rw [HS.out.2.1 t1]; rfl, (HQ.out _).out.2.2⟩
        · obtain rfl : j = n := by omega
          have HE := Lib.hid (cmpI_eq (Hi16.zero (by have := hhi.out; rwa [Nat.sub_self] at this)))
          go_wp2_with fail
          go_ret
          exact ⟨by rw [HE.out]; rfl, hq.out.2.2⟩
  · have HE := Lib.hid (cmpI_gt (dn_lt hl))
    have t1 : ((dn X : Int) != (dn Y : Int)) = true := by simp; omega
    have t2 : (dn Y : Int) < (dn X : Int) := by omega
    clear ha1 ha2
    generalize dn X = a at *
    generalize dn Y = b at *
    go_enter Tryd.func34, Tryd.ntmps34
    go_wp2_with fail
    go_ret
    exact ⟨by rw [HE.out]; rfl, Below.refl _ _⟩
end Go.Proofs.YtihdeanfcbiflaaDoor.R5

/- The walk of a sum in digits. -/
namespace Go.Proofs.YtihdeanfcbiflaaDoor.R5
open Go.RowKit Go.Proofs.YtihdeanfcbiflaaDoor.Mk Go.Proofs.YtihdeanfcbiflaaDoor.Ul Go.Proofs.YtihdeanfcbiflaaDoor.Wi
/-- so many digits of a number lie in block b from o on -/
def DC (w : World) (b o n X : Nat) : Prop := ∀ k, k < n → w.cell? ⟨b, o + k, none⟩ = some (.int .i64 (dg 65536 X k : Nat))
theorem DC.eq {w w' : World} {b o n X : Nat} (h : DC w b o n X) (he : 0 < n → w'.heap[b]? = w.heap[b]?) : DC w' b o n X := fun k hk => (World.cell?_of_block (a := ⟨b, o + k, none⟩) (he (by omega))).trans (h k hk)
theorem DC.lt {w : World} {b o n X : Nat} (h : DC w b o n X) (hn : 0 < n) : b < w.heap.size := block_lt_of_cell (h 0 hn)
theorem DV.cells {w : World} {v : Value} {X : Nat} (h : DV w v X) : ∃ A b o c, v = .slice A (dn X) c ∧ dn X ≤ c ∧ c ≤ 9223372036854775807 ∧ (0 < dn X → A = some ⟨b, o, none⟩) ∧ DC w b o (dn X) X := by
  obtain ⟨A, c, e, h1, h2, _, h4⟩ := h.open
  by_cases h0 : 0 < dn X
  · obtain ⟨b, o, h5, h6⟩ := h4 h0
    exact ⟨A, b, o, c, e, h1, h2, fun _ => h5, h6⟩
  · exact ⟨A, 0, 0, c, e, h1, h2, fun h => absurd h h0, fun k hk => absurd hk (by omega)⟩
end Go.Proofs.YtihdeanfcbiflaaDoor.R5

/- The walk of a product in digits. -/
namespace Go.Proofs.YtihdeanfcbiflaaDoor.R5
open Go.RowKit Go.Proofs.YtihdeanfcbiflaaDoor.Mk Go.Proofs.YtihdeanfcbiflaaDoor.Ul Go.Proofs.YtihdeanfcbiflaaDoor.Wi
theorem made_one (z : Value) (n : Nat) : madeCells #[z] n = (List.replicate n z).toArray := by
  apply Array.ext
  · rw [size_madeCells]; simp
  · intro i h1 h2
    simp [madeCells, Nat.mod_one]
theorem madeI (n : Nat) (hn : n ≤ 100000) (wx : World) : (Instr.makeSlice 57 (.int .i64 n) (.int .i64 n)).run Tryd.prog wx = .ok (.slice (some ⟨wx.heap.size, 0, none⟩) n n) (wx.alloc (.cells (GC mkI n fun _ => 0).toArray 3)) := by
  obtain ⟨i, hi, hz0, hz1, hz2⟩ := info_parts IInt
  have := run_make (P := Tryd.prog) (w := wx) 57 3 i (.int .i64 0) UDg hi hz0 .i64 .i64 n n (by omega) (by omega) (by rw [hz2]; omega) (by omega)
  rw [this, hz1]
  have e : madeCells (Value.int .i64 0).cells (Int.toNat n * 1) = (GC mkI n fun _ => 0).toArray := by
    rw [GC, List.map_const', List.length_range, Int.toNat_natCast, Nat.mul_one]
    exact made_one (.int .i64 0) n
  rw [e]
  simp
/-- what lies where in the loops of Mul -/
def MQ (g N b1 o1 nx X b2 o2 ny Y : Nat) (f : Nat → Nat) (w wr : World) : Prop := GK mkI g N f 3 wr ∧ DC wr b1 o1 nx X ∧ DC wr b2 o2 ny Y ∧ Below w.heap.size w wr
theorem MQ.ext {g N b1 o1 nx X b2 o2 ny Y : Nat} {f f' : Nat → Nat} {w wr : World} (h : MQ g N b1 o1 nx X b2 o2 ny Y f w wr) (he : ∀ j, j < N → f j = f' j) : MQ g N b1 o1 nx X b2 o2 ny Y f' w wr := ⟨h.1.ext he, h.2⟩
theorem MQ.step {g N b1 o1 nx X b2 o2 ny Y : Nat} {f f' : Nat → Nat} {w wr : World} (h : MQ g N b1 o1 nx X b2 o2 ny Y f w wr) {k v : Nat} (h1 : 0 < nx → b1 ≠ g) (h2 : 0 < ny → b2 ≠ g) (h3 : w.heap.size ≤ g) (he : upg f k v = f') : MQ g N b1 o1 nx X b2 o2 ny Y f' w (wr.setCell ⟨g, k, none⟩ (.int .i64 (v : Nat))) := by
  rw [← he]
  exact ⟨h.1.set v, h.2.1.eq (fun hp => Below.heap_setCell _ _ _ _ (h1 hp)), h.2.2.1.eq (fun hp => Below.heap_setCell _ _ _ _ (h2 hp)), h.2.2.2.setCell (p := ⟨g, k, none⟩) h3 _⟩
theorem MQ.drewN {g N b1 o1 nx X b2 o2 ny Y : Nat} {f : Nat → Nat} {w wr : World} (h : MQ g N b1 o1 nx X b2 o2 ny Y f w wr) (n : Nat) : MQ g N b1 o1 nx X b2 o2 ny Y f w (wr.drewN n) := ⟨h.1, h.2.1, h.2.2.1, bdN h.2.2.2 n⟩
def fk (X Y i k : Nat) : Nat → Nat := fun j => if j < i + k then dg 65536 (pp X Y (i + 1)) j else dg 65536 (pp X Y i) j
theorem fk_zero (X Y i : Nat) : fk X Y i 0 = fun j => dg 65536 (pp X Y i) j := by
  funext j
  unfold fk
  by_cases h : j < i + 0
  · rw [if_pos h, pp_low X Y i j h]
  · rw [if_neg h]
theorem fk_at (X Y i k : Nat) : fk X Y i k (i + k) = dg 65536 (pp X Y i / 65536 ^ i) k := by
  unfold fk
  rw [if_neg (by omega), (pp_high X Y i k).2]
theorem fk_step (X Y i k : Nat) : upg (fk X Y i k) (i + k) (dg 65536 (pp X Y i / 65536 ^ i + dg 65536 X i * Y) k) = fk X Y i (k + 1) := by
  rw [← (pp_high X Y i k).1]
  funext j
  unfold upg fk
  by_cases h : j = i + k
  · rw [if_pos h, if_pos (by omega), h]
  · rw [if_neg h]
    by_cases h2 : j < i + k
    · rw [if_pos h2, if_pos (by omega)]
    · rw [if_neg h2, if_neg (by omega)]
theorem fk_done {X Y i k : Nat} (hY : dn Y ≤ k) (hc : pc (pp X Y i / 65536 ^ i) (dg 65536 X i) Y k = 0) : fk X Y i k = fun j => dg 65536 (pp X Y (i + 1)) j := by
  funext j
  unfold fk
  by_cases h : j < i + k
  · rw [if_pos h]
  · rw [if_neg h]
    have e : j = i + (j - i) := by omega
    rw [e, (pp_high X Y i (j - i)).1, (pp_high X Y i (j - i)).2, pc_done hY hc (by omega)]
set_option maxHeartbeats 8000000 in
set_option maxRecDepth 100000 in
theorem r5mul_calls (X Y : Nat) (v1 v2 : Value) (w : World) (h1 : DV w v1 X) (h2 : DV w v2 Y) (hX : dn X ≤ 1000) (hY : dn Y ≤ 1000) :
    Calls Tryd.prog 50 #[v1, v2] w fun e w' => ∃ v, e = .returned v ∧ DV w' v (X * Y) ∧ Below w.heap.size w w' := by
  obtain ⟨A1, b1, o1, q1, rfl, hlc1, hcm1, ha1, r1⟩ := h1.cells
  obtain ⟨A2, b2, o2, q2, rfl, hlc2, hcm2, ha2, r2⟩ := h2.cells
  have HB := Lib.hid (And.intro (fun h => r1.lt h) (fun h => r2.lt h))
  have HR := Lib.hid (And.intro r1 r2)
  have HM := Lib.hid (And.intro (fun i => pp_lt (X := X) (i := i) (Nat.le_refl (dn Y))) (And.intro (pp_all (Y := Y) (Nat.le_refl (dn X))) (mul_bd (Nat.le_refl (dn X)) (Nat.le_refl (dn Y)))))
  have HF := Lib.hid (fun i k (h : dn Y ≤ k) hc => fk_done (X := X) (i := i) h hc)
  have HZ := Lib.hid (dg_beyond (X := Y) (i := dn Y) (Nat.le_refl _))
  clear h1 h2 r1 r2
  generalize dn X = nx at *
  generalize dn Y = ny at *
  have hmk := madeI (nx + ny + 1) (by omega)
  rw [show ((nx + ny + 1 : Nat) : Int) = (nx : Int) + ny + 1 by omega] at hmk
  go_enter Tryd.func50, Tryd.ntmps50
  go_wp2_with fail
  generalize hW : World.alloc w _ = W
  have H0 : Hid (MQ w.heap.size (nx + ny + 1) b1 o1 nx X b2 o2 ny Y (fun j => dg 65536 (pp X Y 0) j) w W) := Lib.hid (by
    rw [← hW]
    refine ⟨GK.ext (f := fun _ => 0) (nw1 _ _) (fun j _ => by rw [pp_zero, dg_zero]), ?_, ?_, bl1 _ _⟩
    · exact HR.out.1.eq (fun h => Below.heap_alloc _ _ _ (HB.out.1 h))
    · exact HR.out.2.eq (fun h => Below.heap_alloc _ _ _ (HB.out.2 h)))
  clear hW hmk
  go_loopw [6] (fun s6 wr => ∃ i : Nat, i ≤ nx ∧ s6 = .int .i64 i ∧ Hid (MQ w.heap.size (nx + ny + 1) b1 o1 nx X b2 o2 ny Y (fun j => dg 65536 (pp X Y i) j) w wr)) (fun s6 _ => nx - (intOf s6).toNat)
  case atStart => exact ⟨0, by omega, rfl, H0⟩
  case round =>
    obtain ⟨i, hin, rfl, hq⟩ := hrel
    by_cases hil : i < nx
    · have hax := ha1 (by omega)
      subst hax
      have t1 : (i : Int) < nx := by omega
      have t1' : decide ((i : Int) < nx) = true := decide_eq_true t1
      have hxd := dg_lt (B := 65536) (by decide) X i
      have hq0 : Hid (MQ w.heap.size (nx + ny + 1) b1 o1 nx X b2 o2 ny Y (fk X Y i 0) w wr) := Lib.hid (by rw [fk_zero]; exact hq.out)
      have Hp0 := Lib.hid (pc_zero (pp X Y i / 65536 ^ i) (dg 65536 X i) Y)
      have HMi := Lib.hid (HM.out.1 i)
      clear hq H0
      go_wp2_with fail
      obtain ⟨wo, rfl⟩ : ∃ wo : World, wo = wr := ⟨_, rfl⟩
      go_loopw [7, 8] (fun s7 s8 wr => ∃ k : Nat, (k ≤ ny ∨ (k ≤ ny + 1 ∧ pc (pp X Y i / 65536 ^ i) (dg 65536 X i) Y k = 0)) ∧ s8 = .int .i64 k ∧ s7 = .int .i64 (pc (pp X Y i / 65536 ^ i) (dg 65536 X i) Y k : Nat) ∧ Hid (MQ w.heap.size (nx + ny + 1) b1 o1 nx X b2 o2 ny Y (fk X Y i k) w wr)) (fun _ s8 _ => ny + 2 - (intOf s8).toNat)
      case atStart => exact ⟨0, .inl (by omega), rfl, by rw [Hp0.out]; rfl, hq0⟩
      case round =>
        clear hq0
        obtain ⟨k, hkb, rfl, rfl, hq⟩ := hrel
        have hpl := pc_le (pp X Y i / 65536 ^ i) (dg 65536 X i) Y k
        have hst := pc_step (pp X Y i / 65536 ^ i) (dg 65536 X i) Y k
        have hel := dg_lt (B := 65536) (by decide) (pp X Y i / 65536 ^ i) k
        by_cases hk : k < ny
        · have hay := ha2 (by omega)
          subst hay
          have t2 : (k : Int) < ny := by omega
          have hyd := dg_lt (B := 65536) (by decide) Y k
          have c3 := hq.out.1.cell (i := i + k) (by omega)
          have z3 : ∀ nq, (wr.drewN nq).frozen? ⟨w.heap.size, i + k, none⟩ = false := fun nq => hq.out.1.free (i + k)
          have c3' : ∀ nq, (wr.drewN nq).cell? ⟨w.heap.size, i + k, none⟩ = some (mkI (fk X Y i k (i + k))) := fun nq => hq.out.1.cell (i := i + k) (by omega)
          rw [fk_at] at c3
          rw [fk_at] at c3'
          unfold mkI at c3 c3'
          have k1 := hq.out.2.1 i hil
          have k2 := hq.out.2.2.1 k hk
          have HS := Lib.hid (fun nq => (hq.out.drewN nq).step (k := i + k) (v := dg 65536 (pp X Y i / 65536 ^ i + dg 65536 X i * Y) k) (f' := fk X Y i (k + 1)) (fun h => by have := HB.out.1 h; omega) (fun h => by have := HB.out.2 h; omega) (Nat.le_refl _) (fk_step X Y i k))
          have hpb : dg 65536 X i * dg 65536 Y k ≤ 65535 * 65535 := Nat.mul_le_mul (by omega) (by omega)
          have e0 : (dg 65536 X i : Int) * (dg 65536 Y k : Int) = ((dg 65536 X i * dg 65536 Y k : Nat) : Int) := by simp
          generalize hpe : dg 65536 X i * dg 65536 Y k = p at *
          generalize dg 65536 (pp X Y i / 65536 ^ i + dg 65536 X i * Y) k = nv at *
          obtain ⟨c', hc'⟩ : ∃ c', c' = pc (pp X Y i / 65536 ^ i) (dg 65536 X i) Y (k + 1) := ⟨_, rfl⟩
          rw [← hc'] at hst
          have HC' := Lib.hid hc'
          generalize pc (pp X Y i / 65536 ^ i) (dg 65536 X i) Y k = c at *
          generalize dg 65536 (pp X Y i / 65536 ^ i) k = ev at *
          generalize dg 65536 Y k = yd at *
          generalize dg 65536 X i = xd at *
          have e1 : IntKind.i64.wrap ((xd : Int) * (yd : Int)) = (p : Int) := by rw [e0]; exact IntWalk.i64_in _ (by omega)
          obtain ⟨n, hn⟩ : ∃ n, n = ev + c + p := ⟨_, rfl⟩
          rw [← hn] at hst
          have e2 : IntKind.i64.wrap ((ev : Int) + (c : Int) + (p : Int)) = (n : Int) := by rw [hn]; exact IntWalk.i64_in _ (by omega)
          have hm : (n : Int) % 65536 = (nv : Int) := by rw [← hst.1]; omega
          have hdv : (n : Int) / 65536 = (c' : Int) := by rw [← hst.2]; omega
          have HDV := Lib.hid hdv
          have hnb : n ≤ 4294967296 := by omega
          have i1 : ¬ (i : Int) < 0 := by omega
          have i2 : ¬ (k : Int) < 0 := by omega
          clear hst hc' hn hdv e0 hpe
          go_wp2_with fail
          go_quiet (fail)
          go_wp2_with fail
          go_roundw
          case rel => exact ⟨k + 1, .inl (by omega), by go_num, by rw [← HC'.out, HDV.out], Lib.hid (HS.out _)⟩
          case measure => simp [intOf] <;> omega
        · have t2 : ¬ (k : Int) < ny := by omega
          have t2' : decide ((k : Int) < ny) = false := decide_eq_false t2
          by_cases hc : pc (pp X Y i / 65536 ^ i) (dg 65536 X i) Y k = 0
          · have HS := Lib.hid hq.out
            rw [HF.out i k (by omega) hc] at HS
            rw [hc]
            clear hst hpl hel hc
            go_wp2_with fail
            go_roundw
            case rel => exact ⟨i + 1, by omega, by go_num, HS⟩
            case measure => simp [intOf] <;> omega
          · have hkn : k = ny := by omega
            subst hkn
            have hend := pc_end HMi.out
            have c3 := hq.out.1.cell (i := i + k) (by omega)
            have z3 := hq.out.1.free (i + k)
            rw [fk_at] at c3
            unfold mkI at c3
            have HS := Lib.hid (hq.out.step (k := i + k) (v := dg 65536 (pp X Y i / 65536 ^ i + dg 65536 X i * Y) k) (f' := fk X Y i (k + 1)) (fun h => by have := HB.out.1 h; omega) (fun h => by have := HB.out.2 h; omega) (Nat.le_refl _) (fk_step X Y i k))
            rw [HZ.out, Nat.mul_zero] at hst
            rw [hend] at hst
            generalize dg 65536 (pp X Y i / 65536 ^ i + dg 65536 X i * Y) k = nv at *
            generalize hcc : pc (pp X Y i / 65536 ^ i) (dg 65536 X i) Y k = c at *
            generalize dg 65536 (pp X Y i / 65536 ^ i) k = ev at *
            have hm : ((ev : Int) + (c : Int)) % 65536 = (nv : Int) := by rw [← hst.1]; omega
            have hdv : ((ev : Int) + (c : Int)) / 65536 = 0 := by omega
            have HDV := Lib.hid hdv
            have HE := Lib.hid hend
            have t3 : (0 : Int) < c := by omega
            have i1 : ¬ (i : Int) < 0 := by omega
            have hcl : c ≤ 65536 := by omega
            clear hst hcc hdv hend
            go_wp2_with fail
            go_roundw
            case rel => exact ⟨k + 1, .inr ⟨by omega, HE.out⟩, by go_num, by rw [HE.out, HDV.out]; rfl, HS⟩
            case measure => simp [intOf] <;> omega
    · obtain rfl : i = nx := by omega
      have hq' := hq.out.1
      have Ho := Lib.hid (SL.of_owns1 (hq'.owns (B := w.heap.size) (Nat.le_refl _) (by simp [maxLen]; omega)) (by simp; omega))
      have HW := Lib.hid hq.out.2.2.2
      have hT := Lib.hid (fun v w h => trim_calls (digs 65536 (i + ny + 1) (pp X Y i)) v w (digs_lt (by decide) _ _) h)
      rw [HM.out.2.1, val_digs (by decide) _ _ HM.out.2.2] at hT
      rw [HM.out.2.1] at Ho
      have t1 : ¬ (i : Int) < i := by omega
      clear hq hq'
      go_wp2_with fail
      refine (hT.out _ _ Ho.out).mono ?_
      rintro e w1 ⟨v', rfl, hv, rfl⟩
      have HV := Lib.hid hv
      clear hv
      go_wp2_with fail
      go_ret
      exact ⟨_, rfl, HV.out, HW.out⟩
set_option maxHeartbeats 4000000 in
set_option maxRecDepth 100000 in
theorem r5pow_calls (n : Nat) (w : World) (hn : n ≤ 1000) :
    Calls Tryd.prog 51 #[.int .i64 n] w fun e w' => ∃ v, e = .returned v ∧ DV w' v (2 ^ n) ∧ Below w.heap.size w w' := by
  have hmk := madeI (n / 16 + 1) (by omega)
  rw [show ((n / 16 + 1 : Nat) : Int) = (n : Int) / 16 + 1 by omega] at hmk
  have hs := shl_one n
  have hset : upg (fun _ => 0) (n / 16) (2 ^ (n % 16)) = dg 65536 (2 ^ n) := by
    funext j
    rw [dg_pow]
    rfl
  have hdl : dl (2 ^ n) = (List.range (n / 16 + 1)).map (dg 65536 (2 ^ n)) := dl_digs (dn_pow n)
  have HF : Hid (∀ wx : World, GK mkI w.heap.size (n / 16 + 1) (dg 65536 (2 ^ n)) 3 wx → DV wx (.slice (some ⟨w.heap.size, 0, none⟩) (n / 16 + 1) (n / 16 + 1)) (2 ^ n)) := Lib.hid (fun wx hx => by
    unfold DV
    rw [hdl]
    exact SL.of_owns1 (hx.owns (B := w.heap.size) (Nat.le_refl _) (by simp [maxLen]; omega)) (by simp; omega))
  have HU := Lib.hid hset
  obtain ⟨p, hp⟩ : ∃ p, p = 2 ^ (n % 16) := ⟨_, rfl⟩
  rw [← hp] at hs HU
  obtain ⟨hs1, hs2⟩ := hs
  have G0 := Lib.hid (nw1 w (.cells (GC mkI (n / 16 + 1) fun _ => 0).toArray 3))
  have c1 : (w.alloc (.cells (GC mkI (n / 16 + 1) fun _ => 0).toArray 3)).cell? ⟨w.heap.size, n / 16, none⟩ = some (.int .i64 0) := GK.cell (mk := mkI) (f := fun _ => 0) G0.out (by omega)
  have z1 : (w.alloc (.cells (GC mkI (n / 16 + 1) fun _ => 0).toArray 3)).frozen? ⟨w.heap.size, n / 16, none⟩ = false := GK.free (mk := mkI) (f := fun _ => 0) G0.out _
  have HN : Hid (GK mkI w.heap.size (n / 16 + 1) (dg 65536 (2 ^ n)) 3 (w.alloc (.cells ((GC mkI (n / 16 + 1) fun _ => 0).set (n / 16) (.int .i64 (p : Int))).toArray 3))) := Lib.hid (by
    unfold GK
    rw [nw1, ← HU.out, ← GC_set (mk := mkI) (fun _ => 0) p]
    rfl)
  clear hset hdl hp
  go_enter Tryd.func51, Tryd.ntmps51
  go_wp2_with fail
  go_ret
  exact ⟨_, rfl, HF.out _ HN.out, bl1 _ _⟩
end Go.Proofs.YtihdeanfcbiflaaDoor.R5

/- The walk of the document's decimal digits. -/
namespace Go.Proofs.YtihdeanfcbiflaaDoor.R5
open Go.RowKit Go.Proofs.YtihdeanfcbiflaaDoor.Mk Go.Proofs.YtihdeanfcbiflaaDoor.Ul Go.Proofs.YtihdeanfcbiflaaDoor.Wi
open Go.Proofs.YtihdeanfcbiflaaDoor.Lg (d10 d10_last d10_more d10_pos decL)
theorem Xbs : Tryd.prog.underlying 62 = some (.slice 5) := by kernel_rfl
theorem Xu8 : Tryd.prog.underlying 5 = some (.int .u8) := by kernel_rfl
theorem Xst : Tryd.prog.underlying 9 = some .string := by kernel_rfl
theorem cell_nt (n : Nat) (h : n < 256) : Extern.Stop.cell (UInt8.ofNat n) = .int .u8 ((n : Nat) : Int) := by
  unfold Extern.Stop.cell
  rw [UInt8.toNat_ofNat_of_lt' h]
  rfl
theorem byte1_calls (y : Nat) (w : World) (hy : y < 256) :
    Calls Tryd.prog 41 #[.int .i64 (y : Int)] w fun e w' => e = .returned (.string (ba [UInt8.ofNat y])) ∧ Below w.heap.size w w' := by
  have hSB : SB (w.alloc (.cells #[.int .u8 (y : Int)] 5)) (.slice (some ⟨w.heap.size, 0, none⟩) 1 1) [UInt8.ofNat y] :=
    ⟨by simp [maxLen], some ⟨w.heap.size, 0, none⟩, 1, rfl, Nat.le_refl _, by simp [maxLen], fun _ => ⟨w.heap.size, 0, rfl, fun j u hj => by
      have e : hc [UInt8.ofNat y] = [.int .u8 (y : Int)] := by simp [hc, cell_nt y hy]
      rw [e] at hj
      rw [cell_of_row _ _ _ _ _ _ (heap_alloc_new w _)]
      simpa using hj⟩⟩
  have hcv := run_string_bytes (P := Tryd.prog) Xbs Xu8 Xst hSB
  generalize ba [UInt8.ofNat y] = s at *
  clear hSB
  go_enter Tryd.func41, Tryd.ntmps41
  go_wp2_with fail
  go_ret
  exact ⟨rfl, (Below.refl _ _).alloc (Nat.le_refl _) _⟩
theorem digs_cons {B m d q : Nat} (hd : d < B) : digs B (m + 1) (d + B * q) = d :: digs B m q := by
  have hB : 0 < B := by omega
  unfold digs
  rw [List.range_succ_eq_map, List.map_cons, List.map_map]
  congr 1
  · unfold dg
    rw [Nat.pow_zero, Nat.div_one, Nat.add_mul_mod_self_left, Nat.mod_eq_of_lt hd]
  · refine List.map_congr_left fun k _ => ?_
    show dg B (d + B * q) (k + 1) = dg B q k
    unfold dg
    rw [Nat.pow_succ, Nat.mul_comm (B ^ k) B, ← Nat.div_div_eq_div_mul, Nat.add_mul_div_left _ _ hB, Nat.div_eq_of_lt hd, Nat.zero_add]
/-- one step of the division by 10 -/
theorem ten_step (Y i m : Nat) : Y / 65536 ^ (i + 1) % 10 * 65536 + dg 65536 Y i < 655360 ∧ (Y / 65536 ^ (i + 1) % 10 * 65536 + dg 65536 Y i) % 10 = Y / 65536 ^ i % 10 ∧ digs 65536 (m + 1) (Y / 65536 ^ i / 10) = (Y / 65536 ^ (i + 1) % 10 * 65536 + dg 65536 Y i) / 10 :: digs 65536 m (Y / 65536 ^ (i + 1) / 10) := by
  have h1 : Y / 65536 ^ (i + 1) = Y / 65536 ^ i / 65536 := (div_16 Y i).symm
  have h2 : dg 65536 Y i = Y / 65536 ^ i % 65536 := rfl
  rw [h1, h2]
  generalize Y / 65536 ^ i = H
  have h3 : (H / 65536 % 10 * 65536 + H % 65536) / 10 < 65536 := by omega
  refine ⟨by omega, by omega, ?_⟩
  rw [← digs_cons h3]
  congr 1
  omega
theorem ten_zero {X n : Nat} (h : dn X = n) : X / 65536 ^ n = 0 := Nat.div_eq_of_lt ((dn_le n X).1 (Nat.le_of_eq h))
theorem ten_all {X n : Nat} (h : dn X = n) : val 65536 (digs 65536 n (X / 10)) = X / 10 :=
  val_digs (by decide) _ _ (Nat.lt_of_le_of_lt (Nat.div_le_self _ _) ((dn_le n X).1 (Nat.le_of_eq h)))
set_option exponentiation.threshold 6000 in
theorem ten_len {X : Nat} (h : dn X ≤ 1000) : (d10 X).length ≤ 5000 :=
  Lg.d10_len 4999 X (Nat.lt_of_lt_of_le ((dn_le 1000 X).1 h) (by rw [show 4999 + 1 = 5 * 1000 from rfl, Nat.pow_mul]; exact Nat.pow_le_pow_left (by decide) _))
theorem dn_div {X n : Nat} (h : dn X ≤ n) : dn (X / 10) ≤ n := (dn_le n _).2 (Nat.lt_of_le_of_lt (Nat.div_le_self _ _) ((dn_le n X).1 h))
set_option maxHeartbeats 8000000 in
set_option maxRecDepth 100000 in
theorem r5text_calls (X : Nat) (v : Value) (w : World) (hX : dn X ≤ 1000) (h : DV w v X) :
    Calls Tryd.prog 20 #[v] w fun e w' => e = .returned (.string (ba (decL X))) ∧ Below w.heap.size w w' := by
  obtain ⟨i0, hi, hz0, hz1, hz2⟩ := info_parts IInt
  have H0 := Lib.hid (And.intro h (Below.refl w.heap.size w))
  have HX := Lib.hid hX
  have HLN := Lib.hid (ten_len hX)
  clear h hX
  go_enter Tryd.func20, Tryd.ntmps20
  go_wp2_with fail
  go_loopg [0, 3] ((d10 X).length) (fun k s0 s3 wr => ∃ (Y : Nat) (m : List UInt8), s3 = .string (ba m) ∧ Hid (dn Y ≤ 1000) ∧ Hid (decL Y ++ m = decL X ∧ k = (d10 Y).length) ∧ Hid (DV wr s0 Y ∧ Below w.heap.size w wr))
  case atStart => exact ⟨X, [], rfl, HX, Lib.hid ⟨by simp, rfl⟩, H0⟩
  case round =>
    obtain ⟨Y, m, rfl, hY, hm, hq⟩ := hrel
    clear H0 HX
    obtain ⟨A, b, o, c, rfl, hlc, hcm, ha, hcells⟩ := hq.out.1.cells
    have hn := hY.out
    have hC := Lib.hid (And.intro hcells hq.out.2)
    clear hcells hq
    obtain ⟨n, hnn⟩ : ∃ n, n = dn Y := ⟨_, rfl⟩
    rw [← hnn] at hlc ha hn hC ⊢
    have HN := Lib.hid hnn
    clear hnn hY
    have HA := Lib.hid ha
    clear ha
    go_wp2_with fail
    go_loopw [4, 5, 6] (fun s4 s5 s6 wr => ∃ i : Nat, i ≤ n ∧ s6 = .int .i64 ((i : Int) - 1) ∧ s5 = .int .i64 ((Y / 65536 ^ i % 10 : Nat) : Int) ∧ Hid (i = n → s4 = .slice none 0 0) ∧ Hid (DS wr s4 (digs 65536 (n - i) (Y / 65536 ^ i / 10))) ∧ Hid (DC wr b o n Y ∧ Below w.heap.size w wr)) (fun _ _ s6 _ => (intOf s6 + 1).toNat)
    case atStart => exact ⟨n, Nat.le_refl _, by go_num, by rw [ten_zero HN.out.symm]; rfl, Lib.hid (fun _ => rfl), Lib.hid (by rw [Nat.sub_self]; exact SL.nil _ _ _), hC⟩
    case round =>
      clear hC
      obtain ⟨i, hin, rfl, rfl, hnil, hds, hC⟩ := hrel
      by_cases hi0 : i = 0
      · subst hi0
        have hds1 := hds.out
        rw [Nat.pow_zero, Nat.div_one, Nat.sub_zero] at hds1
        rw [Nat.pow_zero, Nat.div_one]
        have hT := Lib.hid (fun v w h => trim_calls (digs 65536 n (Y / 10)) v w (digs_lt (by decide) _ _) h)
        rw [ten_all HN.out.symm] at hT
        have HDS := Lib.hid hds1
        clear hds1 hds hnil
        have HB := fun w => byte1_calls (48 + Y % 10) w (by omega)
        have hm9 := Nat.mod_lt Y (show 0 < 10 by decide)
        obtain ⟨d, hd⟩ : ∃ d, d = Y % 10 := ⟨_, rfl⟩
        rw [← hd] at HB hm9 ⊢
        rw [show ((48 + d : Nat) : Int) = 48 + (d : Int) by omega] at HB
        have HB := Lib.hid HB
        have HD := Lib.hid hd
        clear hd
        obtain ⟨t1, ht1⟩ : ∃ t, t = ba [UInt8.ofNat (48 + d)] := ⟨_, rfl⟩
        obtain ⟨t2, ht2⟩ : ∃ t, t = ba m := ⟨_, rfl⟩
        rw [← ht1] at HB
        rw [← ht2]
        have HT := Lib.hid (And.intro ht1 ht2)
        have z1 : t1.size = 1 := by rw [ht1]; rfl
        have z2 : t2.size ≤ 5000 := by
          rw [ht2]
          have h1 := congrArg List.length hm.out.1
          have h2 := HLN.out
          rw [List.length_append, decL, decL, List.length_reverse, List.length_reverse] at h1
          show m.length ≤ 5000
          omega
        clear ht1 ht2
        go_wp2_with fail
        refine (HB.out _).mono ?_
        rintro e w1 ⟨rfl, hb1⟩
        have hBW := Lib.hid (below_up hC.out.2 hb1)
        have HDS1 := Lib.hid (HDS.out.below hb1)
        clear hb1 HDS hC
        go_wp2_with fail
        refine (hT.out _ _ HDS1.out).mono ?_
        rintro e w2 ⟨v', rfl, hv, rfl⟩
        have HV := Lib.hid hv
        obtain ⟨A1, b1, o1, c1, rfl, hl1, hl2, _, _⟩ := hv.cells
        clear hv hT
        by_cases hz : Y / 10 = 0
        · have hzn : dn (Y / 10) = 0 := by rw [hz]; exact congrArg List.length dl_zero
          have HF := Lib.hid (show t1 ++ t2 = ba (decL X) from by rw [HT.out.1, HT.out.2, ba_append, ← hm.out.1, decL, d10_last hz, HD.out]; rfl)
          clear hz
          go_wp2_with fail
          go_ret
          exact ⟨by rw [← HF.out]; rfl, hBW.out⟩
        · have hzn : dn (Y / 10) ≠ 0 := fun h => hz (dn_zero h)
          have HF := Lib.hid (show t1 ++ t2 = ba (UInt8.ofNat (48 + d) :: m) ∧ decL (Y / 10) ++ (UInt8.ofNat (48 + d) :: m) = decL X ∧ (d10 (Y / 10)).length < gk from by
            refine ⟨by rw [HT.out.1, HT.out.2, ba_append]; rfl, ?_, ?_⟩
            · rw [← hm.out.1, decL, decL, d10_more hz, HD.out]; simp
            · rw [hm.out.2, d10_more hz, List.length_cons]; omega)
          have HY2 := Lib.hid (dn_div (n := 1000) (by rw [← HN.out]; exact hn))
          go_wp2_with fail
          go_roundg ((d10 (Y / 10)).length)
          case measure => exact HF.out.2.2
          case rel => exact ⟨Y / 10, _, by rw [HF.out.1], HY2, Lib.hid ⟨HF.out.2.1, rfl⟩, Lib.hid ⟨HV.out, hBW.out⟩⟩
      · obtain ⟨j, rfl⟩ : ∃ j, i = j + 1 := ⟨i - 1, by omega⟩
        have hA := HA.out (by omega)
        subst hA
        have c1 := hC.out.1 j (by omega)
        obtain ⟨g1, g2, g3⟩ := ten_step Y j (n - (j + 1))
        have hlen : (digs 65536 (n - (j + 1)) (Y / 65536 ^ (j + 1) / 10)).length = n - (j + 1) := digs_len _ _ _
        generalize digs 65536 (n - (j + 1)) (Y / 65536 ^ (j + 1) / 10) = l at *
        generalize Y / 65536 ^ (j + 1) % 10 = r at *
        generalize dg 65536 Y j = d at *
        obtain ⟨q, hq⟩ : ∃ q, q = (r * 65536 + d) / 10 := ⟨_, rfl⟩
        obtain ⟨r', hr'⟩ : ∃ q, q = Y / 65536 ^ j % 10 := ⟨_, rfl⟩
        rw [← hq] at g3
        rw [← hr'] at g2
        have e1 : ((r : Int) * 65536 + d) / 10 = (q : Int) := by omega
        have e2 : ((r : Int) * 65536 + d) % 10 = (r' : Int) := by omega
        have e3 : ((r : Int) * 65536 + d).tdiv 10 = (q : Int) := by rw [Int.tdiv_eq_ediv_of_nonneg (by omega), e1]
        have e4 : ((r : Int) * 65536 + d).tmod 10 = (r' : Int) := by rw [Int.tmod_eq_emod_of_nonneg (by omega), e2]
        have HR := Lib.hid hr'
        have G3 := Lib.hid g3
        clear g3 hr' g2 hq
        have hsw := hC.out.2.size
        by_cases hjn : j + 1 = n
        · have h1 := hnil.out hjn
          subst h1
          obtain rfl : l = [] := List.eq_nil_of_length_eq_zero (by omega)
          clear hnil hds hjn hlen
          have ho := Lib.hid (show (wr.alloc (.cells #[.int .i64 (q : Int)] 3)).ownsRow wr.heap.size 3 1 (.slice (some ⟨wr.heap.size, 0, none⟩) 1 1) 1 [.int .i64 (q : Int)] from World.ownsRow_lit wr #[.int .i64 (q : Int)] 1 (Nat.le_refl _) (by simp [maxLen]) rfl)
          go_wp2_with (at_builtin; refine wpList_append_own_none rfl _ _ 57 rfl wr.heap.size 3 i0 1 UDg hi _ 1 _ rfl ho.out rfl ?_)
          refine ⟨⟨j, by omega, rfl, by rw [HR.out], Lib.hid (fun h => by omega), Lib.hid ?_, Lib.hid ⟨hC.out.1.eq (fun hp => Below.heap_alloc _ _ _ (hC.out.1.lt hp)), hC.out.2.alloc hsw _⟩⟩, by simp [intOf] <;> omega⟩
          rw [show n - j = n - (j + 1) + 1 by omega, G3.out]
          exact SL.of_owns1 (l := [q]) ho.out (by simp)
        · obtain ⟨A', c', rfl, hl1, hl2, hl3⟩ := hds.out.cell1
          obtain ⟨b', o', rfl, hl4⟩ := hl3 (by omega)
          clear hnil hds hl3
          have HL4 := Lib.hid hl4
          have HLl := Lib.hid hlen
          clear hl4 hlen
          have ho := Lib.hid (show (wr.alloc (.cells #[.int .i64 (q : Int)] 3)).ownsRow wr.heap.size 3 1 (.slice (some ⟨wr.heap.size, 0, none⟩) 1 1) 1 [.int .i64 (q : Int)] from World.ownsRow_lit wr #[.int .i64 (q : Int)] 1 (Nat.le_refl _) (by simp [maxLen]) rfl)
          go_wp2_with (at_builtin; refine wpList_append_own _ rfl _ _ 57 rfl wr.heap.size 3 i0 _ 1 8 UDg hi hz0 hz1 hz2 rfl (by decide) _ 1 _ rfl ho.out ⟨b', o', none⟩ l.length c' (l.map mkI) rfl ?c1 ?c2 ?c3 ?c4 ?c5 ?c6 ?_)
          case c2 =>
            intro k u hk
            have := HL4.out k u hk
            rw [(bl1 wr _).cell (p := ⟨b', o' + k, none⟩) (block_lt_of_cell this)]
            exact this
          case c3 => intro u hu; rfl
          case c4 => have := HLl.out; simp only [maxLen]; omega
          case c5 => have := HLl.out; omega
          intro v2 w2 ho2 hg2 _
          have hgn := Lib.hid (grown_new (B := wr.heap.size) hg2 (fun k hk => (ho.out.lt k hk).1) (Below.refl wr.heap.size wr) (Nat.le_refl _) (Nat.le_refl _))
          have Ho2 := Lib.hid (show DS w2 v2 (q :: l) from SL.of_owns1 (base := wr.heap.size) (e := 3) (by rw [List.length_cons, Nat.add_comm]; exact ho2) (by have := HLl.out; rw [List.length_cons]; omega))
          clear ho2 hg2
          go_wp2_with fail
          refine ⟨⟨j, by omega, rfl, by rw [HR.out], Lib.hid (fun h => by omega), Lib.hid ?_, Lib.hid ⟨hC.out.1.eq (fun hp => hgn.out.2.2 _ (hC.out.1.lt hp) (hC.out.1.lt hp)), below_of hC.out.2 hgn.out.1 hsw⟩⟩, by simp [intOf] <;> omega⟩
          rw [show n - j = n - (j + 1) + 1 by omega, G3.out]
          exact Ho2.out
end Go.Proofs.YtihdeanfcbiflaaDoor.R5
