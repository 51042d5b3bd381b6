/- The walks of chapter 39's counts, stretches and Multi. -/
import Derived.Test.YtfelbjiflceopaaGd
import Derived.Test.YtfelbjiflceopaaPl
namespace Go.Proofs.Ytfelbjiflceopaa.Gd
open Go.RowKit Go.Proofs.Ytfelbjiflceopaa.Mk Go.Proofs.Ytfelbjiflceopaa.Ul Go.Proofs.Ytfelbjiflceopaa.Lg Go.Proofs.Ytfelbjiflceopaa.Up Go.Proofs.Ytfelbjiflceopaa.Rt
/-- how many stand ahead of each place -/
def CT (w : World) (v : Value) (zs : List Int) (level : Int) : Prop := ∃ b o c, v = .slice (some ⟨b, o, none⟩) (zs.length + 1) c ∧ ∀ i, i ≤ zs.length → w.cell? ⟨b, o + i, none⟩ = some (.int .i64 (ahd zs level i : Nat))
theorem CT.below {w w' : World} {v : Value} {zs : List Int} {level : Int} (h : CT w v zs level) (hb : Below w.heap.size w w') : CT w' v zs level := by
  obtain ⟨b, o, c, rfl, hx⟩ := h
  exact ⟨b, o, c, rfl, fun i hi => (hb.cell (p := ⟨b, o + i, none⟩) (block_lt_of_cell (hx i hi))).trans (hx i hi)⟩
theorem made_one (z : Value) (n : Nat) : madeCells #[z] n = (List.replicate n z).toArray := by
  apply Array.ext
  · rw [size_madeCells]; simp
  · intro i h1 h2
    simp [madeCells, Nat.mod_one]
theorem madeN (n : Nat) (hn : n ≤ 100000) (wx : World) : (Instr.makeSlice 22 (.int .i64 n) (.int .i64 n)).run Try.prog wx = .ok (.slice (some ⟨wx.heap.size, 0, none⟩) n n) (wx.alloc (.cells (GC nI n fun _ => 0).toArray 3)) := by
  obtain ⟨i, hi, hz0, hz1, hz2⟩ := info_parts IInt
  have := run_make (P := Try.prog) (w := wx) 22 3 i (.int .i64 0) UIs hi hz0 .i64 .i64 n n (by omega) (by omega) (by rw [hz2]; omega) (by omega)
  rw [this, hz1]
  have e : madeCells (Value.int .i64 0).cells (Int.toNat n * 1) = (GC nI n fun _ => 0).toArray := by
    rw [GC, List.map_const', List.length_range, Int.toNat_natCast, Nat.mul_one]
    exact made_one (.int .i64 0) n
  rw [e]
  simp
def ak (zs : List Int) (level : Int) (k : Nat) : Nat → Nat := fun i => if i ≤ k then ahd zs level i else 0
theorem ak_zero (zs : List Int) (level : Int) : ak zs level 0 = fun _ => 0 := by
  funext i
  unfold ak
  split
  · obtain rfl : i = 0 := by omega
    rfl
  · rfl
theorem ak_at (zs : List Int) (level : Int) (k : Nat) : ak zs level k k = ahd zs level k := by unfold ak; rw [if_pos (Nat.le_refl _)]
theorem ak_next (zs : List Int) (level : Int) (k : Nat) : ak zs level k (k + 1) = 0 := by unfold ak; rw [if_neg (by omega)]
theorem ak_step (zs : List Int) (level : Int) (k : Nat) : upg (ak zs level k) (k + 1) (ahd zs level (k + 1)) = ak zs level (k + 1) := by
  funext i
  unfold upg ak
  by_cases h : i = k + 1
  · rw [if_pos h, if_pos (by omega), h]
  · rw [if_neg h]
    by_cases h2 : i ≤ k
    · rw [if_pos h2, if_pos (by omega)]
    · rw [if_neg h2, if_neg (by omega)]
theorem upg_two {β : Type} (f : Nat → β) (k : Nat) (u v : β) : upg (upg f k u) k v = upg f k v := by
  funext i
  unfold upg
  by_cases h : i = k
  · rw [if_pos h, if_pos h]
  · rw [if_neg h, if_neg h, if_neg h]
theorem nI_eq (n : Nat) : (.int .i64 (n : Int) : Value) = nI n := rfl
set_option maxHeartbeats 4000000 in
set_option maxRecDepth 100000 in
theorem counts_calls (v : Value) (zs : List Int) (level : Int) (w : World) (hz : ZS w v zs) (hl : zs.length ≤ 1024) :
    Calls Try.prog 48 #[v, .int .i64 level] w fun e w' => ∃ r, e = .returned r ∧ CT w' r zs level ∧ Below w.heap.size w w' := by
  have hmk := madeN (zs.length + 1) (by omega)
  rw [show ((zs.length + 1 : Nat) : Int) = (zs.length : Int) + 1 by omega] at hmk
  have HZ := Lib.hid (fun wx (hx : Below w.heap.size w wx) => (hz.below hx).cell1)
  obtain ⟨A, cap, rfl, _⟩ := hz.cell1
  clear hz
  go_enter Try.func48, Try.ntmps48
  go_wp2_with fail
  generalize hW : World.alloc w _ = W
  have H0 : Hid (GK nI w.heap.size (zs.length + 1) (ak zs level 0) 3 W ∧ Below w.heap.size w W) := Lib.hid (by
    rw [← hW, ak_zero]
    exact ⟨nw1 _ _, bl1 _ _⟩)
  clear hW hmk
  go_loopw [14] (fun s14 wr => ∃ k : Nat, k ≤ zs.length ∧ s14 = .int .i64 k ∧ Hid (GK nI w.heap.size (zs.length + 1) (ak zs level k) 3 wr ∧ Below w.heap.size w wr)) (fun s14 _ => zs.length - (intOf s14).toNat)
  case atStart => exact ⟨0, by omega, rfl, H0⟩
  case round =>
    clear H0
    obtain ⟨k, hk, rfl, hq⟩ := hrel
    by_cases hlt : k < zs.length
    · obtain ⟨_, _, he, _, _, hx⟩ := HZ.out _ hq.out.2
      cases he
      obtain ⟨b1, o1, rfl, hx2⟩ := hx (by omega)
      have c := hx2 k zs[k] (List.getElem?_eq_getElem hlt)
      unfold zI at c
      have c3 := hq.out.1.cell (i := k) (by omega)
      have c4 := hq.out.1.cell (i := k + 1) (by omega)
      have z4 := hq.out.1.free (k + 1)
      rw [ak_at] at c3
      rw [ak_next] at c4
      unfold nI at c3 c4
      have hal := ahd_le zs level k
      have hgd : zs[k]?.getD 0 = zs[k] := by rw [List.getElem?_eq_getElem hlt]; rfl
      have HS0 := Lib.hid (show ¬ level ≤ zs[k] → GK nI w.heap.size (zs.length + 1) (ak zs level (k + 1)) 3 (wr.setCell ⟨w.heap.size, k + 1, none⟩ (.int .i64 (ahd zs level k : Nat))) ∧ Below w.heap.size w (wr.setCell ⟨w.heap.size, k + 1, none⟩ (.int .i64 (ahd zs level k : Nat))) from fun h => by
        have e := ak_step zs level k
        rw [ahd_no (by rw [hgd]; exact h)] at e
        rw [← e]
        exact ⟨hq.out.1.set _, hq.out.2.setCell (p := ⟨w.heap.size, k + 1, none⟩) (Nat.le_refl _) _⟩)
      have HS1 := Lib.hid (show level ≤ zs[k] → GK nI w.heap.size (zs.length + 1) (ak zs level (k + 1)) 3 ((wr.setCell ⟨w.heap.size, k + 1, none⟩ (.int .i64 (ahd zs level k : Nat))).setCell ⟨w.heap.size, k + 1, none⟩ (.int .i64 ((ahd zs level k : Nat) + 1 : Int))) ∧ Below w.heap.size w ((wr.setCell ⟨w.heap.size, k + 1, none⟩ (.int .i64 (ahd zs level k : Nat))).setCell ⟨w.heap.size, k + 1, none⟩ (.int .i64 ((ahd zs level k : Nat) + 1 : Int))) from fun h => by
        have e := ak_step zs level k
        rw [ahd_yes (by rw [hgd]; exact h)] at e
        rw [← e, ← upg_two _ _ (ahd zs level k)]
        exact ⟨(hq.out.1.set _).set _, (hq.out.2.setCell (p := ⟨w.heap.size, k + 1, none⟩) (Nat.le_refl _) _).setCell (p := ⟨w.heap.size, k + 1, none⟩) (Nat.le_refl _) _⟩)
      have i1 : (k : Int) < (zs.length : Int) + 1 := by omega
      have i2 : (k : Int) + 1 < (zs.length : Int) + 1 := by omega
      clear hx hx2 HZ hq hgd
      generalize ahd zs level k = h at *
      generalize zs[k] = z at *
      by_cases hlv : level ≤ z
      · have HQ := Lib.hid (HS1.out hlv)
        have t1 : decide (level ≤ z) = true := decide_eq_true hlv
        clear HS0 HS1 hlv
        go_wp2_with fail
        go_roundw
        case rel => exact ⟨k + 1, by omega, by go_num, HQ⟩
        case measure => simp [intOf] <;> omega
      · have HQ := Lib.hid (HS0.out hlv)
        have t1 : decide (level ≤ z) = false := decide_eq_false hlv
        clear HS0 HS1 hlv
        go_wp2_with fail
        go_roundw
        case rel => exact ⟨k + 1, by omega, by go_num, HQ⟩
        case measure => simp [intOf] <;> omega
    · obtain rfl : k = zs.length := by omega
      clear HZ
      go_wp2_with fail
      go_ret
      refine ⟨_, rfl, ⟨w.heap.size, 0, _, rfl, fun i hi => ?_⟩, hq.out.2⟩
      have := hq.out.1.cell (i := i) (by omega)
      rw [Nat.zero_add, this]
      unfold ak
      rw [if_pos hi]
      rfl
end Go.Proofs.Ytfelbjiflceopaa.Gd
