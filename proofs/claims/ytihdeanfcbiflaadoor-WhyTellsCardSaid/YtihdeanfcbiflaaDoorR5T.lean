/- The walk of the document's decimal digits. -/
import Derived.Deep.LoopGhost
import Derived.Laws.AppendOwnNone
import Derived.Test.YtihdeanfcbiflaaDoorR5A
import Derived.Test.YtihdeanfcbiflaaDoorLgTMath
namespace Go.Proofs.YtihdeanfcbiflaaDoor.R5
open Go.RowKit Go.Proofs.YtihdeanfcbiflaaDoor.Mk Go.Proofs.YtihdeanfcbiflaaDoor.Ul Go.Proofs.YtihdeanfcbiflaaDoor.Wi
open Go.Proofs.YtihdeanfcbiflaaDoor.Lg (d10 d10_last d10_more d10_pos decL)
theorem Xbs : Tryd.prog.underlying 62 = some (.slice 5) := by kernel_rfl
theorem Xu8 : Tryd.prog.underlying 5 = some (.int .u8) := by kernel_rfl
theorem Xst : Tryd.prog.underlying 9 = some .string := by kernel_rfl
theorem cell_nt (n : Nat) (h : n < 256) : Extern.Stop.cell (UInt8.ofNat n) = .int .u8 ((n : Nat) : Int) := by
  unfold Extern.Stop.cell
  rw [UInt8.toNat_ofNat_of_lt' h]
  rfl
theorem byte1_calls (y : Nat) (w : World) (hy : y < 256) :
    Calls Tryd.prog 41 #[.int .i64 (y : Int)] w fun e w' => e = .returned (.string (ba [UInt8.ofNat y])) ∧ Below w.heap.size w w' := by
  have hSB : SB (w.alloc (.cells #[.int .u8 (y : Int)] 5)) (.slice (some ⟨w.heap.size, 0, none⟩) 1 1) [UInt8.ofNat y] :=
    ⟨by simp [maxLen], some ⟨w.heap.size, 0, none⟩, 1, rfl, Nat.le_refl _, by simp [maxLen], fun _ => ⟨w.heap.size, 0, rfl, fun j u hj => by
      have e : hc [UInt8.ofNat y] = [.int .u8 (y : Int)] := by simp [hc, cell_nt y hy]
      rw [e] at hj
      rw [cell_of_row _ _ _ _ _ _ (heap_alloc_new w _)]
      simpa using hj⟩⟩
  have hcv := run_string_bytes (P := Tryd.prog) Xbs Xu8 Xst hSB
  generalize ba [UInt8.ofNat y] = s at *
  clear hSB
  go_enter Tryd.func41, Tryd.ntmps41
  go_wp2_with fail
  go_ret
  exact ⟨rfl, (Below.refl _ _).alloc (Nat.le_refl _) _⟩
theorem digs_cons {B m d q : Nat} (hd : d < B) : digs B (m + 1) (d + B * q) = d :: digs B m q := by
  have hB : 0 < B := by omega
  unfold digs
  rw [List.range_succ_eq_map, List.map_cons, List.map_map]
  congr 1
  · unfold dg
    rw [Nat.pow_zero, Nat.div_one, Nat.add_mul_mod_self_left, Nat.mod_eq_of_lt hd]
  · refine List.map_congr_left fun k _ => ?_
    show dg B (d + B * q) (k + 1) = dg B q k
    unfold dg
    rw [Nat.pow_succ, Nat.mul_comm (B ^ k) B, ← Nat.div_div_eq_div_mul, Nat.add_mul_div_left _ _ hB, Nat.div_eq_of_lt hd, Nat.zero_add]
/-- one step of the division by 10 -/
theorem ten_step (Y i m : Nat) : Y / 65536 ^ (i + 1) % 10 * 65536 + dg 65536 Y i < 655360 ∧ (Y / 65536 ^ (i + 1) % 10 * 65536 + dg 65536 Y i) % 10 = Y / 65536 ^ i % 10 ∧ digs 65536 (m + 1) (Y / 65536 ^ i / 10) = (Y / 65536 ^ (i + 1) % 10 * 65536 + dg 65536 Y i) / 10 :: digs 65536 m (Y / 65536 ^ (i + 1) / 10) := by
  have h1 : Y / 65536 ^ (i + 1) = Y / 65536 ^ i / 65536 := (div_16 Y i).symm
  have h2 : dg 65536 Y i = Y / 65536 ^ i % 65536 := rfl
  rw [h1, h2]
  generalize Y / 65536 ^ i = H
  have h3 : (H / 65536 % 10 * 65536 + H % 65536) / 10 < 65536 := by omega
  refine ⟨by omega, by omega, ?_⟩
  rw [← digs_cons h3]
  congr 1
  omega
theorem ten_zero {X n : Nat} (h : dn X = n) : X / 65536 ^ n = 0 := Nat.div_eq_of_lt ((dn_le n X).1 (Nat.le_of_eq h))
theorem ten_all {X n : Nat} (h : dn X = n) : val 65536 (digs 65536 n (X / 10)) = X / 10 :=
  val_digs (by decide) _ _ (Nat.lt_of_le_of_lt (Nat.div_le_self _ _) ((dn_le n X).1 (Nat.le_of_eq h)))
set_option exponentiation.threshold 6000 in
theorem ten_len {X : Nat} (h : dn X ≤ 1000) : (d10 X).length ≤ 5000 :=
  Lg.d10_len 4999 X (Nat.lt_of_lt_of_le ((dn_le 1000 X).1 h) (by rw [show 4999 + 1 = 5 * 1000 from rfl, Nat.pow_mul]; exact Nat.pow_le_pow_left (by decide) _))
theorem dn_div {X n : Nat} (h : dn X ≤ n) : dn (X / 10) ≤ n := (dn_le n _).2 (Nat.lt_of_le_of_lt (Nat.div_le_self _ _) ((dn_le n X).1 h))
set_option maxHeartbeats 8000000 in
set_option maxRecDepth 100000 in
theorem r5text_calls (X : Nat) (v : Value) (w : World) (hX : dn X ≤ 1000) (h : DV w v X) :
    Calls Tryd.prog 20 #[v] w fun e w' => e = .returned (.string (ba (decL X))) ∧ Below w.heap.size w w' := by
  obtain ⟨i0, hi, hz0, hz1, hz2⟩ := info_parts IInt
  have H0 := Lib.hid (And.intro h (Below.refl w.heap.size w))
  have HX := Lib.hid hX
  have HLN := Lib.hid (ten_len hX)
  clear h hX
  go_enter Tryd.func20, Tryd.ntmps20
  go_wp2_with fail
  go_loopg [0, 3] ((d10 X).length) (fun k s0 s3 wr => ∃ (Y : Nat) (m : List UInt8), s3 = .string (ba m) ∧ Hid (dn Y ≤ 1000) ∧ Hid (decL Y ++ m = decL X ∧ k = (d10 Y).length) ∧ Hid (DV wr s0 Y ∧ Below w.heap.size w wr))
  case atStart => exact ⟨X, [], rfl, HX, Lib.hid ⟨by simp, rfl⟩, H0⟩
  case round =>
    obtain ⟨Y, m, rfl, hY, hm, hq⟩ := hrel
    clear H0 HX
    obtain ⟨A, b, o, c, rfl, hlc, hcm, ha, hcells⟩ := hq.out.1.cells
    have hn := hY.out
    have hC := Lib.hid (And.intro hcells hq.out.2)
    clear hcells hq
    obtain ⟨n, hnn⟩ : ∃ n, n = dn Y := ⟨_, rfl⟩
    rw [← hnn] at hlc ha hn hC ⊢
    have HN := Lib.hid hnn
    clear hnn hY
    have HA := Lib.hid ha
    clear ha
    go_wp2_with fail
    go_loopw [4, 5, 6] (fun s4 s5 s6 wr => ∃ i : Nat, i ≤ n ∧ s6 = .int .i64 ((i : Int) - 1) ∧ s5 = .int .i64 ((Y / 65536 ^ i % 10 : Nat) : Int) ∧ Hid (i = n → s4 = .slice none 0 0) ∧ Hid (DS wr s4 (digs 65536 (n - i) (Y / 65536 ^ i / 10))) ∧ Hid (DC wr b o n Y ∧ Below w.heap.size w wr)) (fun _ _ s6 _ => (intOf s6 + 1).toNat)
    case atStart => exact ⟨n, Nat.le_refl _, by go_num, by rw [ten_zero HN.out.symm]; rfl, Lib.hid (fun _ => rfl), Lib.hid (by rw [Nat.sub_self]; exact SL.nil _ _ _), hC⟩
    case round =>
      clear hC
      obtain ⟨i, hin, rfl, rfl, hnil, hds, hC⟩ := hrel
      by_cases hi0 : i = 0
      · subst hi0
        have hds1 := hds.out
        rw [Nat.pow_zero, Nat.div_one, Nat.sub_zero] at hds1
        rw [Nat.pow_zero, Nat.div_one]
        have hT := Lib.hid (fun v w h => trim_calls (digs 65536 n (Y / 10)) v w (digs_lt (by decide) _ _) h)
        rw [ten_all HN.out.symm] at hT
        have HDS := Lib.hid hds1
        clear hds1 hds hnil
        have HB := fun w => byte1_calls (48 + Y % 10) w (by omega)
        have hm9 := Nat.mod_lt Y (show 0 < 10 by decide)
        obtain ⟨d, hd⟩ : ∃ d, d = Y % 10 := ⟨_, rfl⟩
        rw [← hd] at HB hm9 ⊢
        rw [show ((48 + d : Nat) : Int) = 48 + (d : Int) by omega] at HB
        have HB := Lib.hid HB
        have HD := Lib.hid hd
        clear hd
        obtain ⟨t1, ht1⟩ : ∃ t, t = ba [UInt8.ofNat (48 + d)] := ⟨_, rfl⟩
        obtain ⟨t2, ht2⟩ : ∃ t, t = ba m := ⟨_, rfl⟩
        rw [← ht1] at HB
        rw [← ht2]
        have HT := Lib.hid (And.intro ht1 ht2)
        have z1 : t1.size = 1 := by rw [ht1]; rfl
        have z2 : t2.size ≤ 5000 := by
          rw [ht2]
          have h1 := congrArg List.length hm.out.1
          have h2 := HLN.out
          rw [List.length_append, decL, decL, List.length_reverse, List.length_reverse] at h1
          show m.length ≤ 5000
          omega
        clear ht1 ht2
        go_wp2_with fail
        refine (HB.out _).mono ?_
        rintro e w1 ⟨rfl, hb1⟩
        have hBW := Lib.hid (below_up hC.out.2 hb1)
        have HDS1 := Lib.hid (HDS.out.below hb1)
        clear hb1 HDS hC
        go_wp2_with fail
        refine (hT.out _ _ HDS1.out).mono ?_
        rintro e w2 ⟨v', rfl, hv, rfl⟩
        have HV := Lib.hid hv
        obtain ⟨A1, b1, o1, c1, rfl, hl1, hl2, _, _⟩ := hv.cells
        clear hv hT
        by_cases hz : Y / 10 = 0
        · have hzn : dn (Y / 10) = 0 := by rw [hz]; exact congrArg List.length dl_zero
          have HF := Lib.hid (show t1 ++ t2 = ba (decL X) from by rw [HT.out.1, HT.out.2, ba_append, ← hm.out.1, decL, d10_last hz, HD.out]; rfl)
          clear hz
          go_wp2_with fail
          go_ret
          exact ⟨by rw [← HF.out]; rfl, hBW.out⟩
        · have hzn : dn (Y / 10) ≠ 0 := fun h => hz (dn_zero h)
          have HF := Lib.hid (show t1 ++ t2 = ba (UInt8.ofNat (48 + d) :: m) ∧ decL (Y / 10) ++ (UInt8.ofNat (48 + d) :: m) = decL X ∧ (d10 (Y / 10)).length < gk from by
            refine ⟨by rw [HT.out.1, HT.out.2, ba_append]; rfl, ?_, ?_⟩
            · rw [← hm.out.1, decL, decL, d10_more hz, HD.out]; simp
            · rw [hm.out.2, d10_more hz, List.length_cons]; omega)
          have HY2 := Lib.hid (dn_div (n := 1000) (by rw [← HN.out]; exact hn))
          go_wp2_with fail
          go_roundg ((d10 (Y / 10)).length)
          case measure => exact HF.out.2.2
          case rel => exact ⟨Y / 10, _, by rw [HF.out.1], HY2, Lib.hid ⟨HF.out.2.1, rfl⟩, Lib.hid ⟨HV.out, hBW.out⟩⟩
      · obtain ⟨j, rfl⟩ : ∃ j, i = j + 1 := ⟨i - 1, by omega⟩
        have hA := HA.out (by omega)
        subst hA
        have c1 := hC.out.1 j (by omega)
        obtain ⟨g1, g2, g3⟩ := ten_step Y j (n - (j + 1))
        have hlen : (digs 65536 (n - (j + 1)) (Y / 65536 ^ (j + 1) / 10)).length = n - (j + 1) := digs_len _ _ _
        generalize digs 65536 (n - (j + 1)) (Y / 65536 ^ (j + 1) / 10) = l at *
        generalize Y / 65536 ^ (j + 1) % 10 = r at *
        generalize dg 65536 Y j = d at *
        obtain ⟨q, hq⟩ : ∃ q, q = (r * 65536 + d) / 10 := ⟨_, rfl⟩
        obtain ⟨r', hr'⟩ : ∃ q, q = Y / 65536 ^ j % 10 := ⟨_, rfl⟩
        rw [← hq] at g3
        rw [← hr'] at g2
        have e1 : ((r : Int) * 65536 + d) / 10 = (q : Int) := by omega
        have e2 : ((r : Int) * 65536 + d) % 10 = (r' : Int) := by omega
        have e3 : ((r : Int) * 65536 + d).tdiv 10 = (q : Int) := by rw [Int.tdiv_eq_ediv_of_nonneg (by omega), e1]
        have e4 : ((r : Int) * 65536 + d).tmod 10 = (r' : Int) := by rw [Int.tmod_eq_emod_of_nonneg (by omega), e2]
        have HR := Lib.hid hr'
        have G3 := Lib.hid g3
        clear g3 hr' g2 hq
        have hsw := hC.out.2.size
        by_cases hjn : j + 1 = n
        · have h1 := hnil.out hjn
          subst h1
          obtain rfl : l = [] := List.eq_nil_of_length_eq_zero (by omega)
          clear hnil hds hjn hlen
          have ho := Lib.hid (show (wr.alloc (.cells #[.int .i64 (q : Int)] 3)).ownsRow wr.heap.size 3 1 (.slice (some ⟨wr.heap.size, 0, none⟩) 1 1) 1 [.int .i64 (q : Int)] from World.ownsRow_lit wr #[.int .i64 (q : Int)] 1 (Nat.le_refl _) (by simp [maxLen]) rfl)
          go_wp2_with (at_builtin; refine wpList_append_own_none rfl _ _ 57 rfl wr.heap.size 3 i0 1 UDg hi _ 1 _ rfl ho.out rfl ?_)
          refine ⟨⟨j, by omega, rfl, by rw [HR.out], Lib.hid (fun h => by omega), Lib.hid ?_, Lib.hid ⟨hC.out.1.eq (fun hp => Below.heap_alloc _ _ _ (hC.out.1.lt hp)), hC.out.2.alloc hsw _⟩⟩, by simp [intOf] <;> omega⟩
          rw [show n - j = n - (j + 1) + 1 by omega, G3.out]
          exact SL.of_owns1 (l := [q]) ho.out (by simp)
        · obtain ⟨A', c', rfl, hl1, hl2, hl3⟩ := hds.out.cell1
          obtain ⟨b', o', rfl, hl4⟩ := hl3 (by omega)
          clear hnil hds hl3
          have HL4 := Lib.hid hl4
          have HLl := Lib.hid hlen
          clear hl4 hlen
          have ho := Lib.hid (show (wr.alloc (.cells #[.int .i64 (q : Int)] 3)).ownsRow wr.heap.size 3 1 (.slice (some ⟨wr.heap.size, 0, none⟩) 1 1) 1 [.int .i64 (q : Int)] from World.ownsRow_lit wr #[.int .i64 (q : Int)] 1 (Nat.le_refl _) (by simp [maxLen]) rfl)
          go_wp2_with (at_builtin; refine wpList_append_own _ rfl _ _ 57 rfl wr.heap.size 3 i0 _ 1 8 UDg hi hz0 hz1 hz2 rfl (by decide) _ 1 _ rfl ho.out ⟨b', o', none⟩ l.length c' (l.map mkI) rfl ?c1 ?c2 ?c3 ?c4 ?c5 ?c6 ?_)
          case c2 =>
            intro k u hk
            have := HL4.out k u hk
            rw [(bl1 wr _).cell (p := ⟨b', o' + k, none⟩) (block_lt_of_cell this)]
            exact this
          case c3 => intro u hu; rfl
          case c4 => have := HLl.out; simp only [maxLen]; omega
          case c5 => have := HLl.out; omega
          intro v2 w2 ho2 hg2 _
          have hgn := Lib.hid (grown_new (B := wr.heap.size) hg2 (fun k hk => (ho.out.lt k hk).1) (Below.refl wr.heap.size wr) (Nat.le_refl _) (Nat.le_refl _))
          have Ho2 := Lib.hid (show DS w2 v2 (q :: l) from SL.of_owns1 (base := wr.heap.size) (e := 3) (by rw [List.length_cons, Nat.add_comm]; exact ho2) (by have := HLl.out; rw [List.length_cons]; omega))
          clear ho2 hg2
          go_wp2_with fail
          refine ⟨⟨j, by omega, rfl, by rw [HR.out], Lib.hid (fun h => by omega), Lib.hid ?_, Lib.hid ⟨hC.out.1.eq (fun hp => hgn.out.2.2 _ (hC.out.1.lt hp) (hC.out.1.lt hp)), below_of hC.out.2 hgn.out.1 hsw⟩⟩, by simp [intOf] <;> omega⟩
          rw [show n - j = n - (j + 1) + 1 by omega, G3.out]
          exact Ho2.out
end Go.Proofs.YtihdeanfcbiflaaDoor.R5
