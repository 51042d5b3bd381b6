/- The walk of a sum in digits. -/
import Derived.Test.YtalfgagcfjddcaaR5C
namespace Go.Proofs.Ytalfgagcfjddcaa.R5
open Go.RowKit Go.Proofs.Ytalfgagcfjddcaa.Mk Go.Proofs.Ytalfgagcfjddcaa.Ul Go.Proofs.Ytalfgagcfjddcaa.Wi
/-- so many digits of a number lie in block b from o on -/
def DC (w : World) (b o n X : Nat) : Prop := ∀ k, k < n → w.cell? ⟨b, o + k, none⟩ = some (.int .i64 (dg 65536 X k : Nat))
theorem DC.eq {w w' : World} {b o n X : Nat} (h : DC w b o n X) (he : 0 < n → w'.heap[b]? = w.heap[b]?) : DC w' b o n X := fun k hk => (World.cell?_of_block (a := ⟨b, o + k, none⟩) (he (by omega))).trans (h k hk)
theorem DC.lt {w : World} {b o n X : Nat} (h : DC w b o n X) (hn : 0 < n) : b < w.heap.size := block_lt_of_cell (h 0 hn)
theorem DV.cells {w : World} {v : Value} {X : Nat} (h : DV w v X) : ∃ A b o c, v = .slice A (dn X) c ∧ dn X ≤ c ∧ c ≤ 9223372036854775807 ∧ (0 < dn X → A = some ⟨b, o, none⟩) ∧ DC w b o (dn X) X := by
  obtain ⟨A, c, e, h1, h2, _, h4⟩ := h.open
  by_cases h0 : 0 < dn X
  · obtain ⟨b, o, h5, h6⟩ := h4 h0
    exact ⟨A, b, o, c, e, h1, h2, fun _ => h5, h6⟩
  · exact ⟨A, 0, 0, c, e, h1, h2, fun h => absurd h h0, fun k hk => absurd hk (by omega)⟩
set_option maxHeartbeats 8000000 in
set_option maxRecDepth 100000 in
theorem r5add_calls (X Y : Nat) (v1 v2 : Value) (w : World) (h1 : DV w v1 X) (h2 : DV w v2 Y) (hX : dn X ≤ 1000) (hY : dn Y ≤ 1000) :
    Calls Try.prog 36 #[v1, v2] w fun e w' => ∃ v, e = .returned v ∧ DV w' v (X + Y) ∧ Below w.heap.size w w' := by
  obtain ⟨i0, hi, hz0, hz1, hz2⟩ := info_parts IInt
  obtain ⟨A1, b1, o1, q1, rfl, hlc1, hcm1, ha1, r1⟩ := h1.cells
  obtain ⟨A2, b2, o2, q2, rfl, hlc2, hcm2, ha2, r2⟩ := h2.cells
  have H0 := Lib.hid (And.intro r1 (And.intro r2 (Below.refl w.heap.size w)))
  have HB := Lib.hid (And.intro (fun h => r1.lt h) (fun h => r2.lt h))
  have Hc0 := Lib.hid (c16_zero X Y)
  clear h1 h2 r1 r2
  have HE := Lib.hid (fun (k : Nat) (h1 : dn X ≤ k) (h2 : dn Y ≤ k) => c16_end h1 h2)
  have HS := Lib.hid (fun (k : Nat) (h1 : dn X ≤ k) (h2 : dn Y ≤ k) hc => sum_done h1 h2 hc)
  have HZ := Lib.hid (And.intro (fun i (h : dn X ≤ i) => dg_beyond h) (fun i (h : dn Y ≤ i) => dg_beyond h))
  generalize dn X = nx at *
  generalize dn Y = ny at *
  go_enter Try.func36, Try.ntmps36
  go_wp2_with fail
  go_loopw [5, 6, 7] (fun s5 s6 s7 wr => ∃ i : Nat, (i ≤ nx ∨ i ≤ ny ∨ (i ≤ max nx ny + 1 ∧ c16 X Y i = 0)) ∧ s7 = .int .i64 i ∧ s6 = .int .i64 (c16 X Y i : Nat) ∧ Hid (DO w.heap.size wr s5 (digs 65536 i (X + Y))) ∧ Hid (DC wr b1 o1 nx X ∧ DC wr b2 o2 ny Y ∧ Below w.heap.size w wr)) (fun _ _ s7 _ => max nx ny + 2 - (intOf s7).toNat)
  case atStart => exact ⟨0, .inl (by omega), rfl, by rw [Hc0.out]; rfl, Lib.hid (World.ownsRow_nil _ _ _ _), H0⟩
  case round =>
    obtain ⟨i, hib, rfl, rfl, ho, hq⟩ := hrel
    have hcl := c16_le X Y i
    have hst := c16_step X Y i
    have hlen : (digs 65536 i (X + Y)).length ≤ 1002 := by rw [digs_len]; omega
    have hsz := hq.out.2.2.size
    have i1 : ¬ (i : Int) < 0 := by omega
    by_cases hx : i < nx
    · have hax := ha1 (by omega)
      subst hax
      have k1 := hq.out.1 i hx
      have t1 : (i : Int) < nx := by omega
      have hxl := dg_lt (B := 65536) (by decide) X i
      by_cases hy : i < ny
      · have hay := ha2 (by omega)
        subst hay
        have k2 := hq.out.2.1 i hy
        have t2 : (i : Int) < ny := by omega
        have hyl := dg_lt (B := 65536) (by decide) Y i
        skip
        have hm : (((c16 X Y i : Int) + (dg 65536 X i : Nat) + (dg 65536 Y i : Nat) : Int) % 65536) = ((dg 65536 (X + Y) i : Nat) : Int) := by rw [← hst.1]; omega
        have hdv : (((c16 X Y i : Int) + (dg 65536 X i : Nat) + (dg 65536 Y i : Nat) : Int) / 65536) = ((c16 X Y (i + 1) : Nat) : Int) := by rw [← hst.2]; omega
        clear hst
        generalize dg 65536 X i = a at *
        generalize dg 65536 Y i = b at *
        generalize c16 X Y i = c at *
        obtain ⟨d, hd⟩ : ∃ d, d = dg 65536 (X + Y) i := ⟨_, rfl⟩
        rw [← hd] at hm
        have HD := Lib.hid hd
        obtain ⟨c', hc'⟩ : ∃ d, d = c16 X Y (i + 1) := ⟨_, rfl⟩
        rw [← hc'] at hdv
        have HC' := Lib.hid hc'
        clear hd hc'
        go_wp2_with (at_builtin; refine wpList_append_own _ rfl _ _ 51 rfl w.heap.size 3 i0 _ 1 8 UDg hi hz0 hz1 hz2 rfl (by decide) _ _ _ rfl (ho.out.alloc _) ⟨wr.heap.size, 0, none⟩ 1 1 [.int .i64 (d : Int)] rfl rfl (cell_one_new _ _ _) (by intro u hu; rw [List.mem_singleton.1 hu]; rfl) (by simp only [maxLen]; omega) (by omega) (by simp <;> omega) ?_)
        intro v2 w2 ho2 hg2 _
        have hgn := grown_new hg2 (fun k hk => (ho.out.lt k hk).1) hq.out.2.2 (Nat.le_refl _) hsz
        have Ho2 := Lib.hid (SL.append1 (f := mkI) (x := d) ho2)
        rw [HD.out, ← digs_succ] at Ho2
        have HQ2 := Lib.hid (And.intro (hq.out.1.eq (fun h => hgn.2.2 b1 (HB.out.1 h) (by have := HB.out.1 h; omega))) (And.intro (hq.out.2.1.eq (fun h => hgn.2.2 b2 (HB.out.2 h) (by have := HB.out.2 h; omega))) hgn.1))
        have HDV := Lib.hid hdv
        clear ho2 hg2 hgn ho hq hlen hsz hm hdv
        go_wp2_with fail
        go_roundw
        case rel => exact ⟨i + 1, .inl (by omega), by go_num, by rw [← HC'.out, HDV.out], Ho2, HQ2⟩
        case measure => simp [intOf] <;> omega
      · have t2 : ¬ (i : Int) < ny := by omega
        rw [HZ.out.2 i (by omega)] at hst
        skip
        have hm : (((c16 X Y i : Int) + (dg 65536 X i : Nat) : Int) % 65536) = ((dg 65536 (X + Y) i : Nat) : Int) := by rw [← hst.1]; omega
        have hdv : (((c16 X Y i : Int) + (dg 65536 X i : Nat) : Int) / 65536) = ((c16 X Y (i + 1) : Nat) : Int) := by rw [← hst.2]; omega
        clear hst
        generalize dg 65536 X i = a at *
        generalize dg 65536 Y i = b at *
        generalize c16 X Y i = c at *
        obtain ⟨d, hd⟩ : ∃ d, d = dg 65536 (X + Y) i := ⟨_, rfl⟩
        rw [← hd] at hm
        have HD := Lib.hid hd
        obtain ⟨c', hc'⟩ : ∃ d, d = c16 X Y (i + 1) := ⟨_, rfl⟩
        rw [← hc'] at hdv
        have HC' := Lib.hid hc'
        clear hd hc'
        go_wp2_with (at_builtin; refine wpList_append_own _ rfl _ _ 51 rfl w.heap.size 3 i0 _ 1 8 UDg hi hz0 hz1 hz2 rfl (by decide) _ _ _ rfl (ho.out.alloc _) ⟨wr.heap.size, 0, none⟩ 1 1 [.int .i64 (d : Int)] rfl rfl (cell_one_new _ _ _) (by intro u hu; rw [List.mem_singleton.1 hu]; rfl) (by simp only [maxLen]; omega) (by omega) (by simp <;> omega) ?_)
        intro v2 w2 ho2 hg2 _
        have hgn := grown_new hg2 (fun k hk => (ho.out.lt k hk).1) hq.out.2.2 (Nat.le_refl _) hsz
        have Ho2 := Lib.hid (SL.append1 (f := mkI) (x := d) ho2)
        rw [HD.out, ← digs_succ] at Ho2
        have HQ2 := Lib.hid (And.intro (hq.out.1.eq (fun h => hgn.2.2 b1 (HB.out.1 h) (by have := HB.out.1 h; omega))) (And.intro (hq.out.2.1.eq (fun h => hgn.2.2 b2 (HB.out.2 h) (by have := HB.out.2 h; omega))) hgn.1))
        have HDV := Lib.hid hdv
        clear ho2 hg2 hgn ho hq hlen hsz hm hdv
        go_wp2_with fail
        go_roundw
        case rel => exact ⟨i + 1, .inl (by omega), by go_num, by rw [← HC'.out, HDV.out], Ho2, HQ2⟩
        case measure => simp [intOf] <;> omega
    · have t1 : ¬ (i : Int) < nx := by omega
      have t1' : decide ((i : Int) < nx) = false := decide_eq_false t1
      rw [HZ.out.1 i (by omega)] at hst
      by_cases hy : i < ny
      · have hay := ha2 (by omega)
        subst hay
        have k2 := hq.out.2.1 i hy
        have t2 : (i : Int) < ny := by omega
        have hyl := dg_lt (B := 65536) (by decide) Y i
        skip
        have hm : (((c16 X Y i : Int) + (dg 65536 Y i : Nat) : Int) % 65536) = ((dg 65536 (X + Y) i : Nat) : Int) := by rw [← hst.1]; omega
        have hdv : (((c16 X Y i : Int) + (dg 65536 Y i : Nat) : Int) / 65536) = ((c16 X Y (i + 1) : Nat) : Int) := by rw [← hst.2]; omega
        clear hst
        generalize dg 65536 X i = a at *
        generalize dg 65536 Y i = b at *
        generalize c16 X Y i = c at *
        obtain ⟨d, hd⟩ : ∃ d, d = dg 65536 (X + Y) i := ⟨_, rfl⟩
        rw [← hd] at hm
        have HD := Lib.hid hd
        obtain ⟨c', hc'⟩ : ∃ d, d = c16 X Y (i + 1) := ⟨_, rfl⟩
        rw [← hc'] at hdv
        have HC' := Lib.hid hc'
        clear hd hc'
        go_wp2_with (at_builtin; refine wpList_append_own _ rfl _ _ 51 rfl w.heap.size 3 i0 _ 1 8 UDg hi hz0 hz1 hz2 rfl (by decide) _ _ _ rfl (ho.out.alloc _) ⟨wr.heap.size, 0, none⟩ 1 1 [.int .i64 (d : Int)] rfl rfl (cell_one_new _ _ _) (by intro u hu; rw [List.mem_singleton.1 hu]; rfl) (by simp only [maxLen]; omega) (by omega) (by simp <;> omega) ?_)
        intro v2 w2 ho2 hg2 _
        have hgn := grown_new hg2 (fun k hk => (ho.out.lt k hk).1) hq.out.2.2 (Nat.le_refl _) hsz
        have Ho2 := Lib.hid (SL.append1 (f := mkI) (x := d) ho2)
        rw [HD.out, ← digs_succ] at Ho2
        have HQ2 := Lib.hid (And.intro (hq.out.1.eq (fun h => hgn.2.2 b1 (HB.out.1 h) (by have := HB.out.1 h; omega))) (And.intro (hq.out.2.1.eq (fun h => hgn.2.2 b2 (HB.out.2 h) (by have := HB.out.2 h; omega))) hgn.1))
        have HDV := Lib.hid hdv
        clear ho2 hg2 hgn ho hq hlen hsz hm hdv
        go_wp2_with fail
        go_roundw
        case rel => exact ⟨i + 1, .inr (.inl (by omega)), by go_num, by rw [← HC'.out, HDV.out], Ho2, HQ2⟩
        case measure => simp [intOf] <;> omega
      · have t2 : ¬ (i : Int) < ny := by omega
        have t2' : decide ((i : Int) < ny) = false := decide_eq_false t2
        rw [HZ.out.2 i (by omega)] at hst
        by_cases hc : c16 X Y i = 0
        · have hsum := HS.out i (by omega) (by omega) hc
          have hT := Lib.hid (fun v w h => trim_calls (digs 65536 i (X + Y)) v w (digs_lt (by decide) _ _) h)
          rw [hsum] at hT
          have Ho := Lib.hid (SL.of_owns1 ho.out (by omega))
          rw [hc]
          clear ho hc hst hcl hsum hlen
          go_wp2_with fail
          refine (hT.out _ _ Ho.out).mono ?_
          rintro e w1 ⟨v', rfl, hv, rfl⟩
          have HV := Lib.hid hv
          clear hv
          go_wp2_with fail
          go_ret
          exact ⟨_, rfl, HV.out, hq.out.2.2⟩
        · have t3 : (0 : Int) < c16 X Y i := by omega
          have hib2 : i ≤ max nx ny := by omega
          have HCE := HE.out i (by omega) (by omega)
          skip
          have hm : (((c16 X Y i : Int) : Int) % 65536) = ((dg 65536 (X + Y) i : Nat) : Int) := by rw [← hst.1]; omega
          have hdv : (((c16 X Y i : Int) : Int) / 65536) = ((c16 X Y (i + 1) : Nat) : Int) := by rw [← hst.2]; omega
          clear hst
          generalize dg 65536 X i = a at *
          generalize dg 65536 Y i = b at *
          generalize c16 X Y i = c at *
          obtain ⟨d, hd⟩ : ∃ d, d = dg 65536 (X + Y) i := ⟨_, rfl⟩
          rw [← hd] at hm
          have HD := Lib.hid hd
          obtain ⟨c', hc'⟩ : ∃ d, d = c16 X Y (i + 1) := ⟨_, rfl⟩
          rw [← hc'] at hdv
          have HC' := Lib.hid hc'
          clear hd hc'
          go_wp2_with (at_builtin; refine wpList_append_own _ rfl _ _ 51 rfl w.heap.size 3 i0 _ 1 8 UDg hi hz0 hz1 hz2 rfl (by decide) _ _ _ rfl (ho.out.alloc _) ⟨wr.heap.size, 0, none⟩ 1 1 [.int .i64 (d : Int)] rfl rfl (cell_one_new _ _ _) (by intro u hu; rw [List.mem_singleton.1 hu]; rfl) (by simp only [maxLen]; omega) (by omega) (by simp <;> omega) ?_)
          intro v2 w2 ho2 hg2 _
          have hgn := grown_new hg2 (fun k hk => (ho.out.lt k hk).1) hq.out.2.2 (Nat.le_refl _) hsz
          have Ho2 := Lib.hid (SL.append1 (f := mkI) (x := d) ho2)
          rw [HD.out, ← digs_succ] at Ho2
          have HQ2 := Lib.hid (And.intro (hq.out.1.eq (fun h => hgn.2.2 b1 (HB.out.1 h) (by have := HB.out.1 h; omega))) (And.intro (hq.out.2.1.eq (fun h => hgn.2.2 b2 (HB.out.2 h) (by have := HB.out.2 h; omega))) hgn.1))
          have HDV := Lib.hid hdv
          clear ho2 hg2 hgn ho hq hlen hsz hm hdv
          go_wp2_with fail
          go_roundw
          case rel => exact ⟨i + 1, .inr (.inr ⟨by omega, HCE⟩), by go_num, by rw [← HC'.out, HDV.out], Ho2, HQ2⟩
          case measure => simp [intOf] <;> omega
end Go.Proofs.Ytalfgagcfjddcaa.R5
