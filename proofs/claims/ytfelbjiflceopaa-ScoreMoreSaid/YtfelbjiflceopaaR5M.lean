/- The walk of a product in digits. -/
import Derived.IntWalk
import Derived.Test.YtfelbjiflceopaaR5A
namespace Go.Proofs.Ytfelbjiflceopaa.R5
open Go.RowKit Go.Proofs.Ytfelbjiflceopaa.Mk Go.Proofs.Ytfelbjiflceopaa.Ul Go.Proofs.Ytfelbjiflceopaa.Wi
theorem made_one (z : Value) (n : Nat) : madeCells #[z] n = (List.replicate n z).toArray := by
  apply Array.ext
  · rw [size_madeCells]; simp
  · intro i h1 h2
    simp [madeCells, Nat.mod_one]
theorem madeI (n : Nat) (hn : n ≤ 100000) (wx : World) : (Instr.makeSlice 30 (.int .i64 n) (.int .i64 n)).run Try.prog wx = .ok (.slice (some ⟨wx.heap.size, 0, none⟩) n n) (wx.alloc (.cells (GC mkI n fun _ => 0).toArray 3)) := by
  obtain ⟨i, hi, hz0, hz1, hz2⟩ := info_parts IInt
  have := run_make (P := Try.prog) (w := wx) 30 3 i (.int .i64 0) UDg hi hz0 .i64 .i64 n n (by omega) (by omega) (by rw [hz2]; omega) (by omega)
  rw [this, hz1]
  have e : madeCells (Value.int .i64 0).cells (Int.toNat n * 1) = (GC mkI n fun _ => 0).toArray := by
    rw [GC, List.map_const', List.length_range, Int.toNat_natCast, Nat.mul_one]
    exact made_one (.int .i64 0) n
  rw [e]
  simp
/-- what lies where in the loops of Mul -/
def MQ (g N b1 o1 nx X b2 o2 ny Y : Nat) (f : Nat → Nat) (w wr : World) : Prop := GK mkI g N f 3 wr ∧ DC wr b1 o1 nx X ∧ DC wr b2 o2 ny Y ∧ Below w.heap.size w wr
theorem MQ.ext {g N b1 o1 nx X b2 o2 ny Y : Nat} {f f' : Nat → Nat} {w wr : World} (h : MQ g N b1 o1 nx X b2 o2 ny Y f w wr) (he : ∀ j, j < N → f j = f' j) : MQ g N b1 o1 nx X b2 o2 ny Y f' w wr := ⟨h.1.ext he, h.2⟩
theorem MQ.step {g N b1 o1 nx X b2 o2 ny Y : Nat} {f f' : Nat → Nat} {w wr : World} (h : MQ g N b1 o1 nx X b2 o2 ny Y f w wr) {k v : Nat} (h1 : 0 < nx → b1 ≠ g) (h2 : 0 < ny → b2 ≠ g) (h3 : w.heap.size ≤ g) (he : upg f k v = f') : MQ g N b1 o1 nx X b2 o2 ny Y f' w (wr.setCell ⟨g, k, none⟩ (.int .i64 (v : Nat))) := by
  rw [← he]
  exact ⟨h.1.set v, h.2.1.eq (fun hp => Below.heap_setCell _ _ _ _ (h1 hp)), h.2.2.1.eq (fun hp => Below.heap_setCell _ _ _ _ (h2 hp)), h.2.2.2.setCell (p := ⟨g, k, none⟩) h3 _⟩
theorem MQ.drewN {g N b1 o1 nx X b2 o2 ny Y : Nat} {f : Nat → Nat} {w wr : World} (h : MQ g N b1 o1 nx X b2 o2 ny Y f w wr) (n : Nat) : MQ g N b1 o1 nx X b2 o2 ny Y f w (wr.drewN n) := ⟨h.1, h.2.1, h.2.2.1, bdN h.2.2.2 n⟩
def fk (X Y i k : Nat) : Nat → Nat := fun j => if j < i + k then dg 65536 (pp X Y (i + 1)) j else dg 65536 (pp X Y i) j
theorem fk_zero (X Y i : Nat) : fk X Y i 0 = fun j => dg 65536 (pp X Y i) j := by
  funext j
  unfold fk
  by_cases h : j < i + 0
  · rw [if_pos h, pp_low X Y i j h]
  · rw [if_neg h]
theorem fk_at (X Y i k : Nat) : fk X Y i k (i + k) = dg 65536 (pp X Y i / 65536 ^ i) k := by
  unfold fk
  rw [if_neg (by omega), (pp_high X Y i k).2]
theorem fk_step (X Y i k : Nat) : upg (fk X Y i k) (i + k) (dg 65536 (pp X Y i / 65536 ^ i + dg 65536 X i * Y) k) = fk X Y i (k + 1) := by
  rw [← (pp_high X Y i k).1]
  funext j
  unfold upg fk
  by_cases h : j = i + k
  · rw [if_pos h, if_pos (by omega), h]
  · rw [if_neg h]
    by_cases h2 : j < i + k
    · rw [if_pos h2, if_pos (by omega)]
    · rw [if_neg h2, if_neg (by omega)]
theorem fk_done {X Y i k : Nat} (hY : dn Y ≤ k) (hc : pc (pp X Y i / 65536 ^ i) (dg 65536 X i) Y k = 0) : fk X Y i k = fun j => dg 65536 (pp X Y (i + 1)) j := by
  funext j
  unfold fk
  by_cases h : j < i + k
  · rw [if_pos h]
  · rw [if_neg h]
    have e : j = i + (j - i) := by omega
    rw [e, (pp_high X Y i (j - i)).1, (pp_high X Y i (j - i)).2, pc_done hY hc (by omega)]
set_option maxHeartbeats 8000000 in
set_option maxRecDepth 100000 in
theorem r5mul_calls (X Y : Nat) (v1 v2 : Value) (w : World) (h1 : DV w v1 X) (h2 : DV w v2 Y) (hX : dn X ≤ 1000) (hY : dn Y ≤ 1000) :
    Calls Try.prog 30 #[v1, v2] w fun e w' => ∃ v, e = .returned v ∧ DV w' v (X * Y) ∧ Below w.heap.size w w' := by
  obtain ⟨A1, b1, o1, q1, rfl, hlc1, hcm1, ha1, r1⟩ := h1.cells
  obtain ⟨A2, b2, o2, q2, rfl, hlc2, hcm2, ha2, r2⟩ := h2.cells
  have HB := Lib.hid (And.intro (fun h => r1.lt h) (fun h => r2.lt h))
  have HR := Lib.hid (And.intro r1 r2)
  have HM := Lib.hid (And.intro (fun i => pp_lt (X := X) (i := i) (Nat.le_refl (dn Y))) (And.intro (pp_all (Y := Y) (Nat.le_refl (dn X))) (mul_bd (Nat.le_refl (dn X)) (Nat.le_refl (dn Y)))))
  have HF := Lib.hid (fun i k (h : dn Y ≤ k) hc => fk_done (X := X) (i := i) h hc)
  have HZ := Lib.hid (dg_beyond (X := Y) (i := dn Y) (Nat.le_refl _))
  clear h1 h2 r1 r2
  generalize dn X = nx at *
  generalize dn Y = ny at *
  have hmk := madeI (nx + ny + 1) (by omega)
  rw [show ((nx + ny + 1 : Nat) : Int) = (nx : Int) + ny + 1 by omega] at hmk
  go_enter Try.func30, Try.ntmps30
  go_wp2_with fail
  generalize hW : World.alloc w _ = W
  have H0 : Hid (MQ w.heap.size (nx + ny + 1) b1 o1 nx X b2 o2 ny Y (fun j => dg 65536 (pp X Y 0) j) w W) := Lib.hid (by
    rw [← hW]
    refine ⟨GK.ext (f := fun _ => 0) (nw1 _ _) (fun j _ => by rw [pp_zero, dg_zero]), ?_, ?_, bl1 _ _⟩
    · exact HR.out.1.eq (fun h => Below.heap_alloc _ _ _ (HB.out.1 h))
    · exact HR.out.2.eq (fun h => Below.heap_alloc _ _ _ (HB.out.2 h)))
  clear hW hmk
  go_loopw [6] (fun s6 wr => ∃ i : Nat, i ≤ nx ∧ s6 = .int .i64 i ∧ Hid (MQ w.heap.size (nx + ny + 1) b1 o1 nx X b2 o2 ny Y (fun j => dg 65536 (pp X Y i) j) w wr)) (fun s6 _ => nx - (intOf s6).toNat)
  case atStart => exact ⟨0, by omega, rfl, H0⟩
  case round =>
    obtain ⟨i, hin, rfl, hq⟩ := hrel
    by_cases hil : i < nx
    · have hax := ha1 (by omega)
      subst hax
      have t1 : (i : Int) < nx := by omega
      have t1' : decide ((i : Int) < nx) = true := decide_eq_true t1
      have hxd := dg_lt (B := 65536) (by decide) X i
      have hq0 : Hid (MQ w.heap.size (nx + ny + 1) b1 o1 nx X b2 o2 ny Y (fk X Y i 0) w wr) := Lib.hid (by rw [fk_zero]; exact hq.out)
      have Hp0 := Lib.hid (pc_zero (pp X Y i / 65536 ^ i) (dg 65536 X i) Y)
      have HMi := Lib.hid (HM.out.1 i)
      clear hq H0
      go_wp2_with fail
      obtain ⟨wo, rfl⟩ : ∃ wo : World, wo = wr := ⟨_, rfl⟩
      go_loopw [7, 8] (fun s7 s8 wr => ∃ k : Nat, (k ≤ ny ∨ (k ≤ ny + 1 ∧ pc (pp X Y i / 65536 ^ i) (dg 65536 X i) Y k = 0)) ∧ s8 = .int .i64 k ∧ s7 = .int .i64 (pc (pp X Y i / 65536 ^ i) (dg 65536 X i) Y k : Nat) ∧ Hid (MQ w.heap.size (nx + ny + 1) b1 o1 nx X b2 o2 ny Y (fk X Y i k) w wr)) (fun _ s8 _ => ny + 2 - (intOf s8).toNat)
      case atStart => exact ⟨0, .inl (by omega), rfl, by rw [Hp0.out]; rfl, hq0⟩
      case round =>
        clear hq0
        obtain ⟨k, hkb, rfl, rfl, hq⟩ := hrel
        have hpl := pc_le (pp X Y i / 65536 ^ i) (dg 65536 X i) Y k
        have hst := pc_step (pp X Y i / 65536 ^ i) (dg 65536 X i) Y k
        have hel := dg_lt (B := 65536) (by decide) (pp X Y i / 65536 ^ i) k
        by_cases hk : k < ny
        · have hay := ha2 (by omega)
          subst hay
          have t2 : (k : Int) < ny := by omega
          have hyd := dg_lt (B := 65536) (by decide) Y k
          have c3 := hq.out.1.cell (i := i + k) (by omega)
          have z3 : ∀ nq, (wr.drewN nq).frozen? ⟨w.heap.size, i + k, none⟩ = false := fun nq => hq.out.1.free (i + k)
          have c3' : ∀ nq, (wr.drewN nq).cell? ⟨w.heap.size, i + k, none⟩ = some (mkI (fk X Y i k (i + k))) := fun nq => hq.out.1.cell (i := i + k) (by omega)
          rw [fk_at] at c3
          rw [fk_at] at c3'
          unfold mkI at c3 c3'
          have k1 := hq.out.2.1 i hil
          have k2 := hq.out.2.2.1 k hk
          have HS := Lib.hid (fun nq => (hq.out.drewN nq).step (k := i + k) (v := dg 65536 (pp X Y i / 65536 ^ i + dg 65536 X i * Y) k) (f' := fk X Y i (k + 1)) (fun h => by have := HB.out.1 h; omega) (fun h => by have := HB.out.2 h; omega) (Nat.le_refl _) (fk_step X Y i k))
          have hpb : dg 65536 X i * dg 65536 Y k ≤ 65535 * 65535 := Nat.mul_le_mul (by omega) (by omega)
          have e0 : (dg 65536 X i : Int) * (dg 65536 Y k : Int) = ((dg 65536 X i * dg 65536 Y k : Nat) : Int) := by simp
          generalize hpe : dg 65536 X i * dg 65536 Y k = p at *
          generalize dg 65536 (pp X Y i / 65536 ^ i + dg 65536 X i * Y) k = nv at *
          obtain ⟨c', hc'⟩ : ∃ c', c' = pc (pp X Y i / 65536 ^ i) (dg 65536 X i) Y (k + 1) := ⟨_, rfl⟩
          rw [← hc'] at hst
          have HC' := Lib.hid hc'
          generalize pc (pp X Y i / 65536 ^ i) (dg 65536 X i) Y k = c at *
          generalize dg 65536 (pp X Y i / 65536 ^ i) k = ev at *
          generalize dg 65536 Y k = yd at *
          generalize dg 65536 X i = xd at *
          have e1 : IntKind.i64.wrap ((xd : Int) * (yd : Int)) = (p : Int) := by rw [e0]; exact IntWalk.i64_in _ (by omega)
          obtain ⟨n, hn⟩ : ∃ n, n = ev + c + p := ⟨_, rfl⟩
          rw [← hn] at hst
          have e2 : IntKind.i64.wrap ((ev : Int) + (c : Int) + (p : Int)) = (n : Int) := by rw [hn]; exact IntWalk.i64_in _ (by omega)
          have hm : (n : Int) % 65536 = (nv : Int) := by rw [← hst.1]; omega
          have hdv : (n : Int) / 65536 = (c' : Int) := by rw [← hst.2]; omega
          have HDV := Lib.hid hdv
          have hnb : n ≤ 4294967296 := by omega
          have i1 : ¬ (i : Int) < 0 := by omega
          have i2 : ¬ (k : Int) < 0 := by omega
          clear hst hc' hn hdv e0 hpe
          go_wp2_with fail
          go_quiet (fail)
          go_wp2_with fail
          go_roundw
          case rel => exact ⟨k + 1, .inl (by omega), by go_num, by rw [← HC'.out, HDV.out], Lib.hid (HS.out _)⟩
          case measure => simp [intOf] <;> omega
        · have t2 : ¬ (k : Int) < ny := by omega
          have t2' : decide ((k : Int) < ny) = false := decide_eq_false t2
          by_cases hc : pc (pp X Y i / 65536 ^ i) (dg 65536 X i) Y k = 0
          · have HS := Lib.hid hq.out
            rw [HF.out i k (by omega) hc] at HS
            rw [hc]
            clear hst hpl hel hc
            go_wp2_with fail
            go_roundw
            case rel => exact ⟨i + 1, by omega, by go_num, HS⟩
            case measure => simp [intOf] <;> omega
          · have hkn : k = ny := by omega
            subst hkn
            have hend := pc_end HMi.out
            have c3 := hq.out.1.cell (i := i + k) (by omega)
            have z3 := hq.out.1.free (i + k)
            rw [fk_at] at c3
            unfold mkI at c3
            have HS := Lib.hid (hq.out.step (k := i + k) (v := dg 65536 (pp X Y i / 65536 ^ i + dg 65536 X i * Y) k) (f' := fk X Y i (k + 1)) (fun h => by have := HB.out.1 h; omega) (fun h => by have := HB.out.2 h; omega) (Nat.le_refl _) (fk_step X Y i k))
            rw [HZ.out, Nat.mul_zero] at hst
            rw [hend] at hst
            generalize dg 65536 (pp X Y i / 65536 ^ i + dg 65536 X i * Y) k = nv at *
            generalize hcc : pc (pp X Y i / 65536 ^ i) (dg 65536 X i) Y k = c at *
            generalize dg 65536 (pp X Y i / 65536 ^ i) k = ev at *
            have hm : ((ev : Int) + (c : Int)) % 65536 = (nv : Int) := by rw [← hst.1]; omega
            have hdv : ((ev : Int) + (c : Int)) / 65536 = 0 := by omega
            have HDV := Lib.hid hdv
            have HE := Lib.hid hend
            have t3 : (0 : Int) < c := by omega
            have i1 : ¬ (i : Int) < 0 := by omega
            have hcl : c ≤ 65536 := by omega
            clear hst hcc hdv hend
            go_wp2_with fail
            go_roundw
            case rel => exact ⟨k + 1, .inr ⟨by omega, HE.out⟩, by go_num, by rw [HE.out, HDV.out]; rfl, HS⟩
            case measure => simp [intOf] <;> omega
    · obtain rfl : i = nx := by omega
      have hq' := hq.out.1
      have Ho := Lib.hid (SL.of_owns1 (hq'.owns (B := w.heap.size) (Nat.le_refl _) (by simp [maxLen]; omega)) (by simp; omega))
      have HW := Lib.hid hq.out.2.2.2
      have hT := Lib.hid (fun v w h => trim_calls (digs 65536 (i + ny + 1) (pp X Y i)) v w (digs_lt (by decide) _ _) h)
      rw [HM.out.2.1, val_digs (by decide) _ _ HM.out.2.2] at hT
      rw [HM.out.2.1] at Ho
      have t1 : ¬ (i : Int) < i := by omega
      clear hq hq'
      go_wp2_with fail
      refine (hT.out _ _ Ho.out).mono ?_
      rintro e w1 ⟨v', rfl, hv, rfl⟩
      have HV := Lib.hid hv
      clear hv
      go_wp2_with fail
      go_ret
      exact ⟨_, rfl, HV.out, HW.out⟩
set_option maxHeartbeats 4000000 in
set_option maxRecDepth 100000 in
theorem r5pow_calls (n : Nat) (w : World) (hn : n ≤ 1000) :
    Calls Try.prog 32 #[.int .i64 n] w fun e w' => ∃ v, e = .returned v ∧ DV w' v (2 ^ n) ∧ Below w.heap.size w w' := by
  have hmk := madeI (n / 16 + 1) (by omega)
  rw [show ((n / 16 + 1 : Nat) : Int) = (n : Int) / 16 + 1 by omega] at hmk
  have hs := shl_one n
  have hset : upg (fun _ => 0) (n / 16) (2 ^ (n % 16)) = dg 65536 (2 ^ n) := by
    funext j
    rw [dg_pow]
    rfl
  have hdl : dl (2 ^ n) = (List.range (n / 16 + 1)).map (dg 65536 (2 ^ n)) := dl_digs (dn_pow n)
  have HF : Hid (∀ wx : World, GK mkI w.heap.size (n / 16 + 1) (dg 65536 (2 ^ n)) 3 wx → DV wx (.slice (some ⟨w.heap.size, 0, none⟩) (n / 16 + 1) (n / 16 + 1)) (2 ^ n)) := Lib.hid (fun wx hx => by
    unfold DV
    rw [hdl]
    exact SL.of_owns1 (hx.owns (B := w.heap.size) (Nat.le_refl _) (by simp [maxLen]; omega)) (by simp; omega))
  have HU := Lib.hid hset
  obtain ⟨p, hp⟩ : ∃ p, p = 2 ^ (n % 16) := ⟨_, rfl⟩
  rw [← hp] at hs HU
  obtain ⟨hs1, hs2⟩ := hs
  have G0 := Lib.hid (nw1 w (.cells (GC mkI (n / 16 + 1) fun _ => 0).toArray 3))
  have c1 : (w.alloc (.cells (GC mkI (n / 16 + 1) fun _ => 0).toArray 3)).cell? ⟨w.heap.size, n / 16, none⟩ = some (.int .i64 0) := GK.cell (mk := mkI) (f := fun _ => 0) G0.out (by omega)
  have z1 : (w.alloc (.cells (GC mkI (n / 16 + 1) fun _ => 0).toArray 3)).frozen? ⟨w.heap.size, n / 16, none⟩ = false := GK.free (mk := mkI) (f := fun _ => 0) G0.out _
  have HN : Hid (GK mkI w.heap.size (n / 16 + 1) (dg 65536 (2 ^ n)) 3 (w.alloc (.cells ((GC mkI (n / 16 + 1) fun _ => 0).set (n / 16) (.int .i64 (p : Int))).toArray 3))) := Lib.hid (by
    unfold GK
    rw [nw1, ← HU.out, ← GC_set (mk := mkI) (fun _ => 0) p]
    rfl)
  clear hset hdl hp
  go_enter Try.func32, Try.ntmps32
  go_wp2_with fail
  go_ret
  exact ⟨_, rfl, HF.out _ HN.out, bl1 _ _⟩
end Go.Proofs.Ytfelbjiflceopaa.R5
