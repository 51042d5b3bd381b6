/- The walks of how many bits a number in digits has, and how two stand. -/
import Derived.Test.YtihdeanfcbiflaaDoorR5
import Derived.Deep.QuietTactic
import Derived.BigQuiet
namespace Go.Proofs.YtihdeanfcbiflaaDoor.R5
open Go.RowKit Go.Proofs.YtihdeanfcbiflaaDoor.Mk Go.Proofs.YtihdeanfcbiflaaDoor.Ul Go.Proofs.YtihdeanfcbiflaaDoor.Wi
theorem DV.open {w : World} {v : Value} {X : Nat} (h : DV w v X) : ∃ A c, v = .slice A (dn X) c ∧ dn X ≤ c ∧ c ≤ 9223372036854775807 ∧ dn X ≤ 140737488355328 ∧ (0 < dn X → ∃ b o, A = some ⟨b, o, none⟩ ∧ ∀ k, k < dn X → w.cell? ⟨b, o + k, none⟩ = some (.int .i64 (dg 65536 X k : Nat))) := by
  have hbd := h.len1
  obtain ⟨A, c, h1, h2, h3, h4⟩ := h.cell1
  refine ⟨A, c, h1, h2, h3, hbd, fun hp => ?_⟩
  obtain ⟨b, o, h5, h6⟩ := h4 hp
  exact ⟨b, o, h5, fun k hk => h6 k _ (dl_get k X hk)⟩
set_option maxHeartbeats 4000000 in
set_option maxRecDepth 100000 in
theorem r5cmp_calls (X Y : Nat) (v1 v2 : Value) (w : World) (h1 : DV w v1 X) (h2 : DV w v2 Y) :
    Calls Tryd.prog 34 #[v1, v2] w fun e w' => e = .returned (.int .i64 (cmpI X Y)) ∧ Below w.heap.size w w' := by
  obtain ⟨A1, c1, rfl, hlc1, hcm1, hbd1, ha1⟩ := h1.open
  obtain ⟨A2, c2, rfl, hlc2, hcm2, hbd2, ha2⟩ := h2.open
  clear h1 h2
  rcases Nat.lt_trichotomy (dn X) (dn Y) with hl | hl | hl
  · have HE := Lib.hid (cmpI_lt (dn_lt hl))
    have t1 : ((dn X : Int) != (dn Y : Int)) = true := by simp; omega
    have t2 : ¬ (dn Y : Int) < (dn X : Int) := by omega
    clear ha1 ha2
    generalize dn X = a at *
    generalize dn Y = b at *
    go_enter Tryd.func34, Tryd.ntmps34
    go_wp2_with fail
    go_ret
    exact ⟨by rw [HE.out]; rfl, Below.refl _ _⟩
  · rcases Nat.eq_zero_or_pos (dn Y) with h0 | hp
    · have HE := Lib.hid (cmpI_eq ((dn_zero (hl.trans h0)).trans (dn_zero h0).symm))
      rw [hl, h0]
      clear ha1 ha2 hl h0
      go_enter Tryd.func34, Tryd.ntmps34
      go_wp2_with fail
      go_loop [5] (fun s5 => s5 = .int .i64 (-1)) (fun _ => 0)
      case atStart => rfl
      case round =>
        obtain rfl := hrel
        go_wp2_with fail
        go_ret
        exact ⟨by rw [HE.out]; rfl, Below.refl _ _⟩
    · obtain ⟨b1, o1, rfl, r1⟩ := ha1 (by omega)
      obtain ⟨b2, o2, rfl, r2⟩ := ha2 hp
      have HT := Lib.hid (Hi16.top hl rfl)
      rw [hl] at hlc1 hbd1 r1 ⊢
      clear ha1 ha2 hl
      have H0 := Lib.hid (And.intro r1 (And.intro r2 (Below.refl w.heap.size w)))
      clear r1 r2
      generalize dn Y = n at *
      go_enter Tryd.func34, Tryd.ntmps34
      go_wp2_with fail
      go_loopw [5] (fun s5 wr => ∃ j : Nat, j ≤ n ∧ s5 = .int .i64 ((n : Int) - 1 - (j : Int)) ∧ Hid ((∀ k, k < n → wr.cell? ⟨b1, o1 + k, none⟩ = some (.int .i64 (dg 65536 X k : Nat))) ∧ (∀ k, k < n → wr.cell? ⟨b2, o2 + k, none⟩ = some (.int .i64 (dg 65536 Y k : Nat))) ∧ Below w.heap.size w wr) ∧ Hid (Hi16 X Y (n - j))) (fun s5 _ => (intOf s5 + 1).toNat)
      case atStart => exact ⟨0, by omega, by simp, H0, HT⟩
      case round =>
        obtain ⟨j, hj, rfl, hq, hhi⟩ := hrel
        by_cases hjl : j < n
        · have c1 := hq.out.1 (n - 1 - j) (by omega)
          have c2 := hq.out.2.1 (n - 1 - j) (by omega)
          have hs := hhi.out
          have hnj : (n - 1 - j) = n - (j + 1) := by omega
          rw [show n - j = n - (j + 1) + 1 by omega] at hs
          have hst := hs.step
          rw [← hnj] at hst
          have HK := Lib.hid hnj
          have i1 : (0 : Int) ≤ (n : Int) - 1 - j := by omega
          have i3 : (n : Int) - 1 - j < n := by omega
          clear hs hhi hnj
          generalize dg 65536 X (n - 1 - j) = a at *
          generalize dg 65536 Y (n - 1 - j) = b at *
          have HS := Lib.hid hst
          clear hst
          have hQ : ∀ nq, Hid ((∀ k, k < n → (wr.drewN nq).cell? ⟨b1, o1 + k, none⟩ = some (.int .i64 (dg 65536 X k : Nat))) ∧ (∀ k, k < n → (wr.drewN nq).cell? ⟨b2, o2 + k, none⟩ = some (.int .i64 (dg 65536 Y k : Nat))) ∧ Below w.heap.size w (wr.drewN nq)) := fun nq => Lib.hid ⟨hq.out.1, hq.out.2.1, bdN hq.out.2.2 _⟩
          have HQ := Lib.hid hQ
          clear hQ
          rcases Nat.lt_trichotomy a b with t1 | t1 | t1
          · go_wp2_with fail
            go_quiet (fail)
            go_wp2_with fail
            go_quiet (fail)
            go_wp2_with fail
            go_ret
            exact ⟨by rw [HS.out.1 t1]; rfl, bdN (HQ.out _).out.2.2 _⟩
          · subst t1
            go_wp2_with fail
            go_quiet (fail)
            go_wp2_with fail
            go_quiet (fail)
            go_wp2_with fail
            go_roundw
            case rel => exact ⟨j + 1, by omega, by go_num, HQ.out _, Lib.hid (by rw [← HK.out]; exact HS.out.2.2 (by trivial))⟩
            case measure => simp [intOf] <;> omega
          · go_wp2_with fail
            go_quiet (fail)
            go_wp2_with fail
            go_ret
            exact ⟨by rw [HS.out.2.1 t1]; rfl, (HQ.out _).out.2.2⟩
        · obtain rfl : j = n := by omega
          have HE := Lib.hid (cmpI_eq (Hi16.zero (by have := hhi.out; rwa [Nat.sub_self] at this)))
          go_wp2_with fail
          go_ret
          exact ⟨by rw [HE.out]; rfl, hq.out.2.2⟩
  · have HE := Lib.hid (cmpI_gt (dn_lt hl))
    have t1 : ((dn X : Int) != (dn Y : Int)) = true := by simp; omega
    have t2 : (dn Y : Int) < (dn X : Int) := by omega
    clear ha1 ha2
    generalize dn X = a at *
    generalize dn Y = b at *
    go_enter Tryd.func34, Tryd.ntmps34
    go_wp2_with fail
    go_ret
    exact ⟨by rw [HE.out]; rfl, Below.refl _ _⟩
end Go.Proofs.YtihdeanfcbiflaaDoor.R5
