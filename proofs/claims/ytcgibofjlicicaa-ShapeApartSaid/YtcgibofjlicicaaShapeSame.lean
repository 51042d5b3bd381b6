/- The walk of chapter 11's comparison of two ways up. -/
import Derived.BigQuiet
import Derived.Test.YtcgibofjlicicaaShapeR
namespace Go.Proofs.Ytcgibofjlicicaa.Shape
open Go.RowKit Go.Proofs.Ytcgibofjlicicaa.Mk
theorem SLB.cells {w : World} {A : Option Addr} {n c : Nat} {l : List Bool} (h : SL encB 1 w (.slice A n c) l) : n = l.length ∧ n ≤ c ∧ (0 < l.length → ∃ b o, A = some ⟨b, o, none⟩ ∧ ∀ k x, l[k]? = some x → w.cell? ⟨b, o + k, none⟩ = some (.bool x)) := by
  obtain ⟨_, _, A', c', he, h4, h5, h6⟩ := h
  cases he
  refine ⟨rfl, h4, fun hp => ?_⟩
  obtain ⟨b, o, rfl, hx⟩ := h6 hp
  refine ⟨b, o, rfl, fun k x hk => ?_⟩
  have := hx k x hk 0 (.bool x) rfl
  rwa [Nat.mul_one, Nat.add_zero] at this
theorem SLB.open {w : World} {v : Value} {l : List Bool} (h : SL encB 1 w v l) : ∃ A c, v = .slice A l.length c := by
  obtain ⟨_, _, A', c', he, h4, h5, h6⟩ := h
  exact ⟨A', c', he⟩
theorem ret_bool {a b : Bool} (h : a = b) : Ending.returned (.bool a) = .returned (.bool b) := by rw [h]
theorem take_ne {l1 l2 : List Bool} {k : Nat} (h1 : k < l1.length) (h2 : k < l2.length) (h : l1[k] ≠ l2[k]) : l1 ≠ l2 := by
  intro he
  subst he
  exact h rfl
theorem take_more {l1 l2 : List Bool} {k : Nat} (h1 : k < l1.length) (h2 : k < l2.length) (h : l1[k] = l2[k]) (ht : l1.take k = l2.take k) : l1.take (k + 1) = l2.take (k + 1) := by
  rw [List.take_succ_eq_append_getElem h1, List.take_succ_eq_append_getElem h2, ht, h]
set_option maxRecDepth 100000 in
set_option maxHeartbeats 4000000 in
theorem same_calls (v1 v2 : Value) (l1 l2 : List Bool) (w : World) (h1 : SL encB 1 w v1 l1) (h2 : SL encB 1 w v2 l2) (hl1 : l1.length ≤ 63) (_hl2 : l2.length ≤ 63) :
    Calls Try.prog 45 #[v1, v2] w fun e w' => e = .returned (.bool (decide (l1 = l2))) ∧ Below w.heap.size w w' := by
  obtain ⟨A1, c1, rfl⟩ := SLB.open h1
  obtain ⟨A2, c2, rfl⟩ := SLB.open h2
  obtain ⟨_, hc1, g1⟩ := SLB.cells h1
  obtain ⟨_, hc2, g2⟩ := SLB.cells h2
  generalize hD : decide (l1 = l2) = d
  have Hd := Lib.hid hD
  clear hD h1 h2
  by_cases hlen : l1.length = l2.length
  · have hn1 : (((l1.length : Int)) == ((l2.length : Int))) = true := by simp [hlen]
    go_enter Try.func45, Try.ntmps45
    go_wp2_with fail
    go_loopw [5] (fun s5 wr => ∃ k : Nat, k ≤ l1.length ∧ s5 = .int .i64 k ∧ Hid (l1.take k = l2.take k) ∧ Below w.heap.size w wr) (fun s5 _ => l1.length - (intOf s5).toNat)
    case atStart => exact ⟨0, by omega, rfl, Lib.hid rfl, Below.refl _ _⟩
    case round =>
      obtain ⟨k, hk, rfl, ht, hbw⟩ := hrel
      by_cases hkl : k < l1.length
      · obtain ⟨b1, o1, rfl, f1⟩ := g1 (by omega)
        obtain ⟨b2, o2, rfl, f2⟩ := g2 (by omega)
        have hk2 : k < l2.length := by omega
        have q1 : l1[k]? = some l1[k] := List.getElem?_eq_getElem hkl
        have q2 : l2[k]? = some l2[k] := List.getElem?_eq_getElem hk2
        have e1 := f1 k _ q1
        have e2 := f2 k _ q2
        have hx1 : wr.cell? ⟨b1, o1 + k, none⟩ = some (.bool l1[k]) := (hbw.cell (p := ⟨b1, o1 + k, none⟩) (block_lt_of_cell e1)).trans e1
        have hx2 : wr.cell? ⟨b2, o2 + k, none⟩ = some (.bool l2[k]) := (hbw.cell (p := ⟨b2, o2 + k, none⟩) (block_lt_of_cell e2)).trans e2
        clear q1 q2 e1 e2 f1 f2
        have i1 : ¬ (k : Int) < 0 := by omega
        by_cases hne : l1[k] = l2[k]
        · have ht2 : Hid (l1.take (k + 1) = l2.take (k + 1)) := Lib.hid (take_more hkl hk2 hne ht.out)
          rw [← hne] at hx2
          generalize l1[k] = x at *
          go_wp2_with fail
          go_quiet (fail)
          go_wp2_with fail
          go_roundw
          case rel => exact ⟨k + 1, by omega, by go_num, ht2, bdN hbw _⟩
          case measure => simp [intOf] <;> omega
        · have hD2 : Hid (false = d) := Lib.hid (by
            rw [← Hd.out]
            have : l1 ≠ l2 := take_ne hkl hk2 hne
            simp [this])
          have hne2 : (l1[k] == l2[k]) = false := by simpa using hne
          generalize l1[k] = x at *
          generalize l2[k] = y at *
          go_wp2_with fail
          go_quiet (fail)
          go_wp2_with fail
          go_ret
          exact ⟨ret_bool hD2.out, bdN hbw _⟩
      · have hD2 : Hid (true = d) := Lib.hid (by
          rw [← Hd.out]
          have e := ht.out
          rw [List.take_of_length_le (by omega), List.take_of_length_le (by omega)] at e
          simp [e])
        go_wp2_with fail
        go_ret
        exact ⟨ret_bool hD2.out, hbw⟩
  · have hD2 : Hid (false = d) := Lib.hid (by
      rw [← Hd.out]
      have : l1 ≠ l2 := fun he => hlen (by rw [he])
      simp [this])
    have hn1 : (((l1.length : Int)) == ((l2.length : Int))) = false := by
      rw [beq_eq_false_iff_ne]
      omega
    go_enter Try.func45, Try.ntmps45
    go_wp2_with fail
    go_ret
    exact ⟨ret_bool hD2.out, Below.refl _ _⟩
end Go.Proofs.Ytcgibofjlicicaa.Shape
